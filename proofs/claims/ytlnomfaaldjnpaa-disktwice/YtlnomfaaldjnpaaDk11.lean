/- The disk: Waiting; texts of zeros. No condition. -/
import Derived.Test.YtlnomfaaldjnpaaDk10
import Derived.Test.YtlnomfaaldjnpaaBytes
import Derived.Test.YtlnomfaaldjnpaaRow
import Derived.Laws.MakeOwn
namespace Go.Proofs.Ytlnomfaaldjnpaa.DK
open Go.RowKit Go.Proofs.Ytlnomfaaldjnpaa.MI
set_option linter.unusedVariables false
set_option linter.unusedSimpArgs false

section
variable {w w' : World} {B g N : Nat} {p : Pl} {D : Dk}
def isN (n : Int) : Wr → Bool := fun x => decide (x.n = n)
theorem waiting_any (h : DiskAt w B g p N D) (n : Int) (hN : N ≤ 1000000000) : Calls Try.prog 29 #[.pointer (some ⟨g, 0, none⟩), .int .i64 n] w fun e w' => e = .returned (.int .i64 (waitingK D n : Int)) ∧ Below w.heap.size w w' := by
  have ko := on_any h
  unfold waitingK
  cases hon : D.on
  · rw [hon] at ko
    clear h hon
    go_enter Try.func29, Try.ntmps29
    go_wp2_with (go_at_call 26; refine ko.mono ?_; rintro e w0 ⟨rfl, rfl⟩)
    go_ret
    exact ⟨rfl, Below.refl _ _⟩
  · rw [hon] at ko
    have c5 : w.cell? ⟨g, 5, none⟩ = some (.slice p.wa D.waits.length p.wc) := h.blk.cell 5
    have HL := Lib.hid (Lies.of_own h.waits)
    have hcap := (own_caps h.waits)
    have hA : 0 < D.waits.length → ∃ b, p.wa = some ⟨b, 0, none⟩ := by
      intro h0
      obtain ⟨b, cap, hv, _⟩ := h.waits.form h0
      injection hv with hv
      exact ⟨b, hv⟩
    have hnl : D.waits.length ≤ 1000000000 := by obtain ⟨nl, h1, _⟩ := h.lasts; omega
    obtain ⟨ws, hws⟩ : ∃ ws, D.waits = ws := ⟨_, rfl⟩
    rw [hws] at c5 HL hcap hA hnl ⊢
    obtain ⟨len, hlen⟩ : ∃ len, ws.length = len := ⟨_, rfl⟩
    have hmax : p.wc ≤ maxLen := hcap.2.1
    have hcap1 := hcap.1
    rw [hlen] at c5 hA hnl hcap1
    have HLEN := Lib.hid hlen
    clear h hon hws hlen hcap
    have hfin : (if true = true then (ws.filter fun x => decide (x.n = n)).length else 0) = (ws.filter (isN n)).length := rfl
    rw [hfin]
    clear hfin
    go_enter Try.func29, Try.ntmps29
    go_wp2_with (go_at_call 26; refine ko.mono ?_; rintro e w0 ⟨rfl, rfl⟩)
    go_loopw [5, 16] (fun t i wr => ∃ k m : Nat, k ≤ len ∧ i = .int .i64 (k : Int) ∧ t = .int .i64 (m : Int) ∧ m ≤ k ∧ Hid (m = ((ws.take k).filter (isN n)).length ∧ Below w0.heap.size w0 wr)) (fun _ i _ => len - (intOf i).toNat)
    case atStart => exact ⟨0, 0, Nat.zero_le _, rfl, rfl, Nat.le_refl _, Lib.hid ⟨rfl, Below.refl _ _⟩⟩
    case round =>
      obtain ⟨k, m, hk, rfl, rfl, hmk, HR⟩ := hrel
      by_cases hlt : k < len
      · obtain ⟨b, hb⟩ := hA (by omega)
        obtain ⟨x, hx⟩ : ∃ x, ws[k]? = some x := ⟨_, List.getElem?_eq_getElem (by rw [HLEN.out]; exact hlt)⟩
        have hl2 := HL.out.old (by decide) HR.out.2
        rw [hb] at hl2 ⊢
        obtain ⟨x0, x1, x2, x3⟩ := lies4 hl2 hx rfl
        simp only [Nat.zero_add] at x0 x1 x2 x3
        have HX := Lib.hid hx
        have HB := Lib.hid (HR.out.2.alloc HR.out.2.size (boxW x))
        clear hx hl2
        by_cases hxn : x.n = n
        · have b1 : (x.n == n) = true := by simp [hxn]
          have e1 : IntKind.i64.wrap ((m : Int) + 1) = (m : Int) + 1 := IntWalk.i64_in _ (by omega)
          have R2 : Hid (m + 1 = ((ws.take (k + 1)).filter (isN n)).length ∧ Below w0.heap.size w0 (wr.alloc (boxW x))) := Lib.hid ⟨by rw [List.take_add_one, HX.out, HR.out.1]; simp [isN, hxn], HB.out⟩
          have HXN := Lib.hid hxn
          clear hxn
          go_wp2_with fail
          go_roundw
          case rel => exact ⟨k + 1, m + 1, by omega, by go_num, by go_num, by omega, R2⟩
          case measure => simp [intOf]; omega
        · have b1 : (x.n == n) = false := by simp [hxn]
          have R2 : Hid (m = ((ws.take (k + 1)).filter (isN n)).length ∧ Below w0.heap.size w0 (wr.alloc (boxW x))) := Lib.hid ⟨by rw [List.take_add_one, HX.out, HR.out.1]; simp [isN, hxn], HB.out⟩
          have HXN := Lib.hid hxn
          clear hxn
          go_wp2_with fail
          go_roundw
          case rel => exact ⟨k + 1, m, by omega, by go_num, rfl, by omega, R2⟩
          case measure => simp [intOf]; omega
      · obtain rfl : k = len := by omega
        have hm : m = (ws.filter (isN n)).length := by have := HR.out.1; rwa [List.take_of_length_le (by rw [HLEN.out]; exact Nat.le_refl _)] at this
        have HM := Lib.hid hm
        clear hm
        go_wp2
        go_ret
        exact ⟨ret_int (by rw [HM.out]), HR.out.2⟩
end

/-! ### texts -/
def sameT (x : UInt8) (n : Nat) : ByteArray := ⟨(List.replicate (64 * n) x).toArray⟩
theorem zsec_same : zsec = sameT 0 1 := rfl
theorem sameT_size (x : UInt8) (n : Nat) : (sameT x n).size = 64 * n := by simp [sameT, ByteArray.size]
abbrev zeroCells (k : Nat) : Array Value := madeCells (Value.int .u8 0).cells (k * 1)
theorem zeros_make (k : Nat) (hk : k ≤ 100000) (W : World) : (Instr.makeSlice 40 (.int .i64 (k : Int)) (.int .i64 (k : Int))).run Try.prog W = .ok (.slice (some ⟨W.heap.size, 0, none⟩) k k) (W.alloc (.cells (zeroCells k) 5)) := by
  obtain ⟨i0, hi, hz0, hz1, hz2⟩ := info_parts infB
  have hr := run_make (P := Try.prog) W 40 5 i0 (.int .u8 0) Try.underlying40 hi hz0 .i64 .i64 (k : Int) (k : Int) (by omega) (by omega) (by rw [hz2]; omega) (by omega)
  rw [hz1] at hr
  simp only [Int.toNat_natCast] at hr
  exact hr
theorem zeros_cells (k : Nat) (W : World) : Cells (W.alloc (.cells (zeroCells k) 5)) W.heap.size (List.replicate k 0) := by
  refine ⟨by simp, fun j x hx => ?_⟩
  have hb : Blk (W.alloc (.cells (zeroCells k) 5)) W.heap.size 5 (zeroCells k) := Blk.new _ _ _
  refine ⟨?_, hb.frozen j⟩
  rw [hb.cell]
  have hj : j < k := by
    rcases Nat.lt_or_ge j k with h | h
    · exact h
    · rw [List.getElem?_eq_none (by simpa using h)] at hx; cases hx
  rw [List.getElem?_replicate, if_pos hj] at hx
  injection hx with hx
  subst hx
  simp [zeroCells, madeCells, hj, Value.cells, Nat.mod_one]
theorem text_of {w : World} {g : Nat} {l : List UInt8} (h : Cells w g l) (n c : Nat) (hn : l.length = n) : (convert 40 9 (.slice (some ⟨g, 0, none⟩) n c)).run Try.prog w = .ok (.string ⟨l.toArray⟩) w :=
  h.str (P := Try.prog) 40 9 5 Try.underlying40 Try.underlying5 Try.underlying9 n c hn
/-- 'string(make([]byte, 64))'. -/
theorem zeros_text (W : World) : (convert 40 9 (.slice (some ⟨W.heap.size, 0, none⟩) 64 64)).run Try.prog (W.alloc (.cells (zeroCells 64) 5)) = .ok (.string zsec) (W.alloc (.cells (zeroCells 64) 5)) := text_of (zeros_cells 64 W) 64 64 (by simp)

/-! ### a disk of the call's own -/
/-- Block g is a disk, made since w0; nothing that stood then has turned. -/
def Own (w0 : World) (g N : Nat) (D : Dk) (W : World) : Prop := ∃ p, DiskAt W w0.heap.size g p N D ∧ Below w0.heap.size w0 W
section
variable {w0 W W' : World} {g N : Nat} {D D' : Dk}
theorem Own.bel (h : Own w0 g N D W) : Below w0.heap.size w0 W := by obtain ⟨_, _, hb⟩ := h; exact hb
theorem Own.of {p : Pl} {N' : Nat} (h : DiskAt W w0.heap.size g p N D) (hb : Below w0.heap.size w0 W) (ho : DiskOut W w0.heap.size g p N' D' W') : Own w0 g N' D' W' := by
  obtain ⟨p', h1, h2, _⟩ := ho
  exact ⟨p', h1, h2.after hb h.ge h.base⟩
theorem Own.then_ (h : Own w0 g N D W) (hb : Below W.heap.size W W') : Own w0 g N D W' := by
  obtain ⟨p, h1, h2⟩ := h
  exact ⟨p, h1.old hb, belowThen h2 hb⟩
theorem Own.alloc (h : Own w0 g N D W) (o : Obj) : Own w0 g N D (W.alloc o) := h.then_ (belowNew (belowSame _) _)
theorem Own.drew (h : Own w0 g N D W) : Own w0 g N D W.drew := h.then_ (belowDrew (belowSame _))
theorem Own.drewN (h : Own w0 g N D W) (n : Nat) : Own w0 g N D (W.drewN n) := h.then_ (belowDrewN (belowSame _) n)
theorem Own.eq (h : Own w0 g N D W) (e : D = D') : Own w0 g N D' W := e ▸ h
def OwnNew (w0 : World) (n : Nat) (e : Ending) (w' : World) : Prop := ∃ g, e = .returned (.pointer (some ⟨g, 0, none⟩)) ∧ Own w0 g 0 (newK n) w'
theorem own_new (w0 : World) (hb : Below w0.heap.size w0 W) (n : Nat) (h1 : 1 ≤ n) (hn : n ≤ 20000) : Calls Try.prog 13 #[.int .i64 (n : Int)] W (OwnNew w0 n) :=
  (disk_new w0 W hb n hn).mono fun e w' h => by
    obtain ⟨g, p, he, h2, h3⟩ := h.1 h1
    exact ⟨g, he, p, h2, h3⟩
theorem own_write (h : Own w0 g N D W) (n e q : Int) (b : ByteArray) (hsz : b.size ≤ 1000000) (hN : N ≤ 10000000) :
    Calls Try.prog 15 #[.pointer (some ⟨g, 0, none⟩), .int .i64 n, .int .u64 e, .int .i64 q, .string b] W fun e' w' => e' = .returned (.int .i64 (writeE D n e q b)) ∧ Own w0 g (N + 16) (writeK D n e q b) w' := by
  obtain ⟨p, h1, h2⟩ := h
  exact (write_any h1 n e q b hsz hN).mono fun _ _ ⟨he, ho⟩ => ⟨he, Own.of h1 h2 ho⟩
theorem own_read (h : Own w0 g N D W) (q n : Int) : Calls Try.prog 17 #[.pointer (some ⟨g, 0, none⟩), .int .i64 q, .int .i64 n] W fun e' w' => e' = .returned (.tuple #[.string (readT D q n), .int .i64 (readE D q n)]) ∧ Own w0 g N D w' := by
  obtain ⟨p, h1, h2⟩ := h
  exact (read_any h1 q n).mono fun _ _ ⟨he, ho⟩ => ⟨he, Own.then_ ⟨p, h1, h2⟩ ho⟩
theorem own_barrier (h : Own w0 g N D W) (n e : Int) (hN : N ≤ 10000000) : Calls Try.prog 24 #[.pointer (some ⟨g, 0, none⟩), .int .i64 n, .int .u64 e] W fun e' w' => e' = .returned (.int .i64 (barrierE D n e)) ∧ Own w0 g N (barrierK D n e) w' := by
  obtain ⟨p, h1, h2⟩ := h
  exact (barrier_any h1 n e (by omega)).mono fun _ _ ⟨he, ho⟩ => ⟨he, Own.of h1 h2 ho⟩
theorem own_admit (h : Own w0 g N D W) (n e : Int) (hN : N ≤ 10000000) : Calls Try.prog 14 #[.pointer (some ⟨g, 0, none⟩), .int .i64 n, .int .u64 e] W fun e' w' => e' = .returned (.int .i64 (admitE D n e)) ∧ Own w0 g N (admitK D n e) w' := by
  obtain ⟨p, h1, h2⟩ := h
  exact (admit_any h1 n e (by omega)).mono fun _ _ ⟨he, ho⟩ => ⟨he, Own.of h1 h2 ho⟩
theorem own_fence (h : Own w0 g N D W) (n : Int) (hN : N ≤ 10000000) : Calls Try.prog 28 #[.pointer (some ⟨g, 0, none⟩), .int .i64 n] W fun e' w' => e' = .returned (.int .i64 (fenceE D n)) ∧ Own w0 g N (fenceK D n) w' := by
  obtain ⟨p, h1, h2⟩ := h
  exact (fence_any h1 n (by omega)).mono fun _ _ ⟨he, ho⟩ => ⟨he, Own.of h1 h2 ho⟩
theorem own_put (h : Own w0 g N D W) (n v : Int) (hN : N ≤ 10000000) : Calls Try.prog 18 #[.pointer (some ⟨g, 0, none⟩), .int .i64 n, .int .u64 v] W fun e' w' => e' = .returned (.int .i64 (fenceE D n)) ∧ Own w0 g N (putK D n v) w' := by
  obtain ⟨p, h1, h2⟩ := h
  exact (put_any h1 n v (by omega)).mono fun _ _ ⟨he, ho⟩ => ⟨he, Own.of h1 h2 ho⟩
theorem own_restore (h : Own w0 g N D W) : Calls Try.prog 20 #[.pointer (some ⟨g, 0, none⟩)] W fun e' w' => e' = .returned (.tuple #[]) ∧ Own w0 g N (restoreK D) w' := by
  obtain ⟨p, h1, h2⟩ := h
  exact (restore_any h1).mono fun _ _ ⟨he, ho⟩ => ⟨he, Own.of h1 h2 ho⟩
/-- Cut, with a row that came in, or was laid since. -/
theorem own_cut (h : Own w0 g N D W) (A : Option Addr) (m c : Nat) (keep : List Int) (hl : Lies W 1 A m (keep.map (Value.int .i64))) (hA : 0 < m → ∃ b off, A = some ⟨b, off, none⟩) (hfar : 0 < m → ∀ ad, A = some ad → ad.block < w0.heap.size) (hN : N ≤ 10000000) :
    Calls Try.prog 19 #[.pointer (some ⟨g, 0, none⟩), .slice A m c] W fun e' w' => e' = .returned (.int .i64 (cutN D : Int)) ∧ Own w0 g N (cutK D keep) w' := by
  obtain ⟨p, h1, h2⟩ := h
  exact (cut_any h1 A m c keep hl hA (fun hm ad e hk => by have := hfar hm ad e; have := h1.ge _ hk; omega) (by omega)).mono fun _ _ ⟨he, ho⟩ => ⟨he, Own.of h1 h2 ho⟩
/-- Cut, with a row that was laid just now. -/
theorem own_cut_new (h : Own w0 g N D W) (o : Obj) (m c : Nat) (keep : List Int) (hl : Lies (W.alloc o) 1 (some ⟨W.heap.size, 0, none⟩) m (keep.map (Value.int .i64))) (hN : N ≤ 10000000) :
    Calls Try.prog 19 #[.pointer (some ⟨g, 0, none⟩), .slice (some ⟨W.heap.size, 0, none⟩) m c] (W.alloc o) fun e' w' => e' = .returned (.int .i64 (cutN D : Int)) ∧ Own w0 g N (cutK D keep) w' := by
  obtain ⟨p, h1, h2⟩ := h
  exact (cut_any (h1.alloc o) _ m c keep hl (fun _ => ⟨_, _, rfl⟩) (fun _ ad e hk => by injection e with e; subst e; have := h1.lt _ hk; simp at this) (by omega)).mono fun _ _ ⟨he, ho⟩ => ⟨he, Own.of (h1.alloc o) (belowNew h2 o) ho⟩
/-- Cut without a row. -/
theorem own_cut_none (h : Own w0 g N D W) (hN : N ≤ 10000000) :
    Calls Try.prog 19 #[.pointer (some ⟨g, 0, none⟩), .slice none 0 0] W fun e' w' => e' = .returned (.int .i64 (cutN D : Int)) ∧ Own w0 g N (cutK D []) w' :=
  own_cut h none 0 0 [] Lies.nil (fun h => absurd h (by omega)) (fun _ ad e => by cases e) hN
theorem own_waiting (h : Own w0 g N D W) (n : Int) (hN : N ≤ 10000000) : Calls Try.prog 29 #[.pointer (some ⟨g, 0, none⟩), .int .i64 n] W fun e' w' => e' = .returned (.int .i64 (waitingK D n : Int)) ∧ Own w0 g N D w' := by
  obtain ⟨p, h1, h2⟩ := h
  exact (waiting_any h1 n (by omega)).mono fun _ _ ⟨he, ho⟩ => ⟨he, Own.then_ ⟨p, h1, h2⟩ ho⟩
theorem own_on (h : Own w0 g N D W) : Calls Try.prog 26 #[.pointer (some ⟨g, 0, none⟩)] W fun e' w' => e' = .returned (.bool D.on) ∧ w' = W := by obtain ⟨p, h1, h2⟩ := h; exact on_any h1
theorem own_last (h : Own w0 g N D W) : Calls Try.prog 23 #[.pointer (some ⟨g, 0, none⟩)] W fun e' w' => e' = .returned (.int .u64 D.last) ∧ w' = W := by obtain ⟨p, h1, h2⟩ := h; exact last_any h1
theorem own_epoch (h : Own w0 g N D W) (n : Int) : Calls Try.prog 22 #[.pointer (some ⟨g, 0, none⟩), .int .i64 n] W fun e' w' => e' = .returned (.int .u64 (epochK D n)) ∧ w' = W := by obtain ⟨p, h1, h2⟩ := h; exact epoch_any h1 n
theorem own_word (h : Own w0 g N D W) (n : Int) : Calls Try.prog 21 #[.pointer (some ⟨g, 0, none⟩), .int .i64 n] W fun e' w' => e' = .returned (.int .u64 (wordK D n)) ∧ w' = W := by obtain ⟨p, h1, h2⟩ := h; exact word_any h1 n
theorem own_arm (h : Own w0 g N D W) (n : Int) (hnl : n ≤ 9223372036854775807) (A : Option Addr) (m c : Nat) (keep : List Int) (hl : Lies W 1 A m (keep.map (Value.int .i64))) (hm : m ≤ 1000000000000) (hn : A = none → m = 0 ∧ c = 0) :
    Calls Try.prog 25 #[.pointer (some ⟨g, 0, none⟩), .int .i64 n, .slice A m c] W fun e' w' => e' = .returned (.tuple #[]) ∧ Own w0 g N (armK D n keep) w' := by
  obtain ⟨p, h1, h2⟩ := h
  exact (arm_any h1 n hnl A m c keep hl hm hn).mono fun _ _ ⟨he, ho⟩ => ⟨he, Own.of h1 h2 ho⟩
/-- Cut, with a row that came in. -/
theorem own_cut_row (h : Own w0 g N D W) {A : Option Addr} {m c : Nat} {z : List Int} (hr : IsRow .i64 w0 A m c z) (hN : N ≤ 10000000) :
    Calls Try.prog 19 #[.pointer (some ⟨g, 0, none⟩), .slice A m c] W fun e' w' => e' = .returned (.int .i64 (cutN D : Int)) ∧ Own w0 g N (cutK D (z.take m)) w' :=
  own_cut h A m c _ (hr.lies.old (by decide) h.bel) (fun h0 => by obtain ⟨b, off, e, _⟩ := hr.cells h0; exact ⟨b, off, e⟩) (fun h0 ad e => by obtain ⟨b, off, e2, h3, _⟩ := hr.cells h0; rw [e2] at e; cases e; exact h3) hN
theorem own_arm_row (h : Own w0 g N D W) (n : Int) (hnl : n ≤ 9223372036854775807) {A : Option Addr} {m c : Nat} {z : List Int} (hr : IsRow .i64 w0 A m c z) (hm : m ≤ 1000000000000) :
    Calls Try.prog 25 #[.pointer (some ⟨g, 0, none⟩), .int .i64 n, .slice A m c] W fun e' w' => e' = .returned (.tuple #[]) ∧ Own w0 g N (armK D n (z.take m)) w' :=
  own_arm h n hnl A m c _ (hr.lies.old (by decide) h.bel) hm (fun e => by rcases hr with ⟨_, h1, h2, _⟩ | ⟨x, h1, _⟩; exact ⟨h1, h2⟩; rw [e] at h1; cases h1)
end
end Go.Proofs.Ytlnomfaaldjnpaa.DK
