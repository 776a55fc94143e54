/- The disk: Waiting; texts of zeros. No condition. -/
import Derived.Test.YtacogpogplionaaDk10
import Derived.Test.YtacogpogplionaaBytes
import Derived.Test.YtacogpogplionaaRow
import Derived.Laws.MakeOwn
namespace Go.Proofs.Ytacogpogplionaa.DK
set_option maxRecDepth 100000
open Go.RowKit Go.Proofs.Ytacogpogplionaa.MI
set_option linter.unusedVariables false
set_option linter.unusedSimpArgs false

section
variable {w w' : World} {B g N : Nat} {p : Pl} {D : Dk}
def isN (n : Int) : Wr → Bool := fun x => decide (x.n = n)
end

/-! ### texts -/
def sameT (x : UInt8) (n : Nat) : ByteArray := ⟨(List.replicate (64 * n) x).toArray⟩
theorem zsec_same : zsec = sameT 0 1 := rfl
theorem sameT_size (x : UInt8) (n : Nat) : (sameT x n).size = 64 * n := by simp [sameT, ByteArray.size]
abbrev zeroCells (k : Nat) : Array Value := madeCells (Value.int .u8 0).cells (k * 1)
theorem zeros_make (k : Nat) (hk : k ≤ 100000) (W : World) : (Instr.makeSlice 37 (.int .i64 (k : Int)) (.int .i64 (k : Int))).run Try.prog W = .ok (.slice (some ⟨W.heap.size, 0, none⟩) k k) (W.alloc (.cells (zeroCells k) 5)) := by
  obtain ⟨i0, hi, hz0, hz1, hz2⟩ := info_parts infB
  have hr := run_make (P := Try.prog) W 37 5 i0 (.int .u8 0) Try.underlying37 hi hz0 .i64 .i64 (k : Int) (k : Int) (by omega) (by omega) (by rw [hz2]; omega) (by omega)
  rw [hz1] at hr
  simp only [Int.toNat_natCast] at hr
  exact hr
theorem zeros_cells (k : Nat) (W : World) : Cells (W.alloc (.cells (zeroCells k) 5)) W.heap.size (List.replicate k 0) := by
  refine ⟨by simp, fun j x hx => ?_⟩
  have hb : Blk (W.alloc (.cells (zeroCells k) 5)) W.heap.size 5 (zeroCells k) := Blk.new _ _ _
  refine ⟨?_, hb.frozen j⟩
  rw [hb.cell]
  have hj : j < k := by
    rcases Nat.lt_or_ge j k with h | h
    · exact h
    · rw [List.getElem?_eq_none (by simpa using h)] at hx; cases hx
  rw [List.getElem?_replicate, if_pos hj] at hx
  injection hx with hx
  subst hx
  simp [zeroCells, madeCells, hj, Value.cells, Nat.mod_one]
theorem text_of {w : World} {g : Nat} {l : List UInt8} (h : Cells w g l) (n c : Nat) (hn : l.length = n) : (convert 37 9 (.slice (some ⟨g, 0, none⟩) n c)).run Try.prog w = .ok (.string ⟨l.toArray⟩) w :=
  h.str (P := Try.prog) 37 9 5 Try.underlying37 Try.underlying5 Try.underlying9 n c hn
/-- 'string(make([]byte, 64))'. -/
theorem zeros_text (W : World) : (convert 37 9 (.slice (some ⟨W.heap.size, 0, none⟩) 64 64)).run Try.prog (W.alloc (.cells (zeroCells 64) 5)) = .ok (.string zsec) (W.alloc (.cells (zeroCells 64) 5)) := text_of (zeros_cells 64 W) 64 64 (by simp)

/-! ### a disk of the call's own -/
/-- Block g is a disk, made since w0; nothing that stood then has turned. -/
def Own (w0 : World) (g N : Nat) (D : Dk) (W : World) : Prop := ∃ p, DiskAt W w0.heap.size g p N D ∧ Below w0.heap.size w0 W
section
variable {w0 W W' : World} {g N : Nat} {D D' : Dk}
theorem Own.bel (h : Own w0 g N D W) : Below w0.heap.size w0 W := by obtain ⟨_, _, hb⟩ := h; exact hb
theorem Own.of {p : Pl} {N' : Nat} (h : DiskAt W w0.heap.size g p N D) (hb : Below w0.heap.size w0 W) (ho : DiskOut W w0.heap.size g p N' D' W') : Own w0 g N' D' W' := by
  obtain ⟨p', h1, h2, _⟩ := ho
  exact ⟨p', h1, h2.after hb h.ge h.base⟩
theorem Own.then_ (h : Own w0 g N D W) (hb : Below W.heap.size W W') : Own w0 g N D W' := by
  obtain ⟨p, h1, h2⟩ := h
  exact ⟨p, h1.old hb, belowThen h2 hb⟩
theorem Own.alloc (h : Own w0 g N D W) (o : Obj) : Own w0 g N D (W.alloc o) := h.then_ (belowNew (belowSame _) _)
theorem Own.drew (h : Own w0 g N D W) : Own w0 g N D W.drew := h.then_ (belowDrew (belowSame _))
theorem Own.drewN (h : Own w0 g N D W) (n : Nat) : Own w0 g N D (W.drewN n) := h.then_ (belowDrewN (belowSame _) n)
theorem Own.eq (h : Own w0 g N D W) (e : D = D') : Own w0 g N D' W := e ▸ h
def OwnNew (w0 : World) (n : Nat) (e : Ending) (w' : World) : Prop := ∃ g, e = .returned (.pointer (some ⟨g, 0, none⟩)) ∧ Own w0 g 0 (newK n) w'
theorem own_new (w0 : World) (hb : Below w0.heap.size w0 W) (n : Nat) (h1 : 1 ≤ n) (hn : n ≤ 20000) : Calls Try.prog 14 #[.int .i64 (n : Int)] W (OwnNew w0 n) :=
  (disk_new w0 W hb n hn).mono fun e w' h => by
    obtain ⟨g, p, he, h2, h3⟩ := h.1 h1
    exact ⟨g, he, p, h2, h3⟩
theorem own_write (h : Own w0 g N D W) (n e q : Int) (b : ByteArray) (hsz : b.size ≤ 1000000) (hN : N ≤ 10000000) :
    Calls Try.prog 42 #[.pointer (some ⟨g, 0, none⟩), .int .i64 n, .int .u64 e, .int .i64 q, .string b] W fun e' w' => e' = .returned (.int .i64 (writeE D n e q b)) ∧ Own w0 g (N + 16) (writeK D n e q b) w' := by
  obtain ⟨p, h1, h2⟩ := h
  exact (write_any h1 n e q b hsz hN).mono fun _ _ ⟨he, ho⟩ => ⟨he, Own.of h1 h2 ho⟩
theorem own_read (h : Own w0 g N D W) (q n : Int) : Calls Try.prog 29 #[.pointer (some ⟨g, 0, none⟩), .int .i64 q, .int .i64 n] W fun e' w' => e' = .returned (.tuple #[.string (readT D q n), .int .i64 (readE D q n)]) ∧ Own w0 g N D w' := by
  obtain ⟨p, h1, h2⟩ := h
  exact (read_any h1 q n).mono fun _ _ ⟨he, ho⟩ => ⟨he, Own.then_ ⟨p, h1, h2⟩ ho⟩
theorem own_barrier (h : Own w0 g N D W) (n e : Int) (hN : N ≤ 10000000) : Calls Try.prog 43 #[.pointer (some ⟨g, 0, none⟩), .int .i64 n, .int .u64 e] W fun e' w' => e' = .returned (.int .i64 (barrierE D n e)) ∧ Own w0 g N (barrierK D n e) w' := by
  obtain ⟨p, h1, h2⟩ := h
  exact (barrier_any h1 n e (by omega)).mono fun _ _ ⟨he, ho⟩ => ⟨he, Own.of h1 h2 ho⟩
theorem own_admit (h : Own w0 g N D W) (n e : Int) (hN : N ≤ 10000000) : Calls Try.prog 27 #[.pointer (some ⟨g, 0, none⟩), .int .i64 n, .int .u64 e] W fun e' w' => e' = .returned (.int .i64 (admitE D n e)) ∧ Own w0 g N (admitK D n e) w' := by
  obtain ⟨p, h1, h2⟩ := h
  exact (admit_any h1 n e (by omega)).mono fun _ _ ⟨he, ho⟩ => ⟨he, Own.of h1 h2 ho⟩
theorem own_fence (h : Own w0 g N D W) (n : Int) (hN : N ≤ 10000000) : Calls Try.prog 24 #[.pointer (some ⟨g, 0, none⟩), .int .i64 n] W fun e' w' => e' = .returned (.int .i64 (fenceE D n)) ∧ Own w0 g N (fenceK D n) w' := by
  obtain ⟨p, h1, h2⟩ := h
  exact (fence_any h1 n (by omega)).mono fun _ _ ⟨he, ho⟩ => ⟨he, Own.of h1 h2 ho⟩
theorem own_put (h : Own w0 g N D W) (n v : Int) (hN : N ≤ 10000000) : Calls Try.prog 25 #[.pointer (some ⟨g, 0, none⟩), .int .i64 n, .int .u64 v] W fun e' w' => e' = .returned (.int .i64 (fenceE D n)) ∧ Own w0 g N (putK D n v) w' := by
  obtain ⟨p, h1, h2⟩ := h
  exact (put_any h1 n v (by omega)).mono fun _ _ ⟨he, ho⟩ => ⟨he, Own.of h1 h2 ho⟩
/-- Cut, with a row that came in, or was laid since. -/
theorem own_cut (h : Own w0 g N D W) (A : Option Addr) (m c : Nat) (keep : List Int) (hl : Lies W 1 A m (keep.map (Value.int .i64))) (hA : 0 < m → ∃ b off, A = some ⟨b, off, none⟩) (hfar : 0 < m → ∀ ad, A = some ad → ad.block < w0.heap.size) (hN : N ≤ 10000000) :
    Calls Try.prog 54 #[.pointer (some ⟨g, 0, none⟩), .slice A m c] W fun e' w' => e' = .returned (.int .i64 (cutN D : Int)) ∧ Own w0 g N (cutK D keep) w' := by
  obtain ⟨p, h1, h2⟩ := h
  exact (cut_any h1 A m c keep hl hA (fun hm ad e hk => by have := hfar hm ad e; have := h1.ge _ hk; omega) (by omega)).mono fun _ _ ⟨he, ho⟩ => ⟨he, Own.of h1 h2 ho⟩
/-- Cut, with a row that was laid just now. -/
theorem own_cut_new (h : Own w0 g N D W) (o : Obj) (m c : Nat) (keep : List Int) (hl : Lies (W.alloc o) 1 (some ⟨W.heap.size, 0, none⟩) m (keep.map (Value.int .i64))) (hN : N ≤ 10000000) :
    Calls Try.prog 54 #[.pointer (some ⟨g, 0, none⟩), .slice (some ⟨W.heap.size, 0, none⟩) m c] (W.alloc o) fun e' w' => e' = .returned (.int .i64 (cutN D : Int)) ∧ Own w0 g N (cutK D keep) w' := by
  obtain ⟨p, h1, h2⟩ := h
  exact (cut_any (h1.alloc o) _ m c keep hl (fun _ => ⟨_, _, rfl⟩) (fun _ ad e hk => by injection e with e; subst e; have := h1.lt _ hk; simp at this) (by omega)).mono fun _ _ ⟨he, ho⟩ => ⟨he, Own.of (h1.alloc o) (belowNew h2 o) ho⟩
/-- Cut without a row. -/
theorem own_cut_none (h : Own w0 g N D W) (hN : N ≤ 10000000) :
    Calls Try.prog 54 #[.pointer (some ⟨g, 0, none⟩), .slice none 0 0] W fun e' w' => e' = .returned (.int .i64 (cutN D : Int)) ∧ Own w0 g N (cutK D []) w' :=
  own_cut h none 0 0 [] Lies.nil (fun h => absurd h (by omega)) (fun _ ad e => by cases e) hN
theorem own_on (h : Own w0 g N D W) : Calls Try.prog 44 #[.pointer (some ⟨g, 0, none⟩)] W fun e' w' => e' = .returned (.bool D.on) ∧ w' = W := by obtain ⟨p, h1, h2⟩ := h; exact on_any h1
theorem own_last (h : Own w0 g N D W) : Calls Try.prog 26 #[.pointer (some ⟨g, 0, none⟩)] W fun e' w' => e' = .returned (.int .u64 D.last) ∧ w' = W := by obtain ⟨p, h1, h2⟩ := h; exact last_any h1
theorem own_arm (h : Own w0 g N D W) (n : Int) (hnl : n ≤ 9223372036854775807) (A : Option Addr) (m c : Nat) (keep : List Int) (hl : Lies W 1 A m (keep.map (Value.int .i64))) (hm : m ≤ 1000000000000) (hn : A = none → m = 0 ∧ c = 0) :
    Calls Try.prog 62 #[.pointer (some ⟨g, 0, none⟩), .int .i64 n, .slice A m c] W fun e' w' => e' = .returned (.tuple #[]) ∧ Own w0 g N (armK D n keep) w' := by
  obtain ⟨p, h1, h2⟩ := h
  exact (arm_any h1 n hnl A m c keep hl hm hn).mono fun _ _ ⟨he, ho⟩ => ⟨he, Own.of h1 h2 ho⟩
/-- Cut, with a row that came in. -/
theorem own_cut_row (h : Own w0 g N D W) {A : Option Addr} {m c : Nat} {z : List Int} (hr : IsRow .i64 w0 A m c z) (hN : N ≤ 10000000) :
    Calls Try.prog 54 #[.pointer (some ⟨g, 0, none⟩), .slice A m c] W fun e' w' => e' = .returned (.int .i64 (cutN D : Int)) ∧ Own w0 g N (cutK D (z.take m)) w' :=
  own_cut h A m c _ (hr.lies.old (by decide) h.bel) (fun h0 => by obtain ⟨b, off, e, _⟩ := hr.cells h0; exact ⟨b, off, e⟩) (fun h0 ad e => by obtain ⟨b, off, e2, h3, _⟩ := hr.cells h0; rw [e2] at e; cases e; exact h3) hN
theorem own_arm_row (h : Own w0 g N D W) (n : Int) (hnl : n ≤ 9223372036854775807) {A : Option Addr} {m c : Nat} {z : List Int} (hr : IsRow .i64 w0 A m c z) (hm : m ≤ 1000000000000) :
    Calls Try.prog 62 #[.pointer (some ⟨g, 0, none⟩), .int .i64 n, .slice A m c] W fun e' w' => e' = .returned (.tuple #[]) ∧ Own w0 g N (armK D n (z.take m)) w' :=
  own_arm h n hnl A m c _ (hr.lies.old (by decide) h.bel) hm (fun e => by rcases hr with ⟨_, h1, h2, _⟩ | ⟨x, h1, _⟩; exact ⟨h1, h2⟩; rw [e] at h1; cases h1)
end
end Go.Proofs.Ytacogpogplionaa.DK
