/- A disk in memory: its block, its two maps, the row of what waits, the row of what a cut keeps. No condition. -/
import Derived.Test.YtacogpogplionaaDkPure
import Derived.Test.YtacogpogplionaaMore
import Derived.Test.YtacogpogplionaaChecked
namespace Go.Proofs.Ytacogpogplionaa.DK
set_option maxRecDepth 100000
open Go.RowKit Go.Proofs.Ytacogpogplionaa.MI
set_option linter.unusedVariables false

abbrev TD : TypeId := 64
abbrev TW : TypeId := 103
abbrev TI : TypeId := 3
abbrev uv (x : Int) : Value := .int .u64 x
def dcells (D : Dk) (nb lb : Nat) (wv sv : Value) : Array Value :=
  #[.int .i64 (D.room : Int), .bool D.on, .int .i64 (D.seq : Int), .map (some nb), .map (some lb), wv,
    uv (D.table 0), uv (D.table 1), uv (D.table 2), uv (D.table 3), uv (D.table 4), uv (D.table 5), uv (D.table 6), uv (D.table 7), uv (D.table 8), uv (D.table 9), uv (D.table 10), uv (D.table 11), uv (D.table 12), uv (D.table 13), uv (D.table 14), uv (D.table 15), uv (D.table 16),
    uv (D.words 0), uv (D.words 1), uv (D.words 2), uv (D.words 3), uv (D.words 4), uv (D.words 5), uv (D.words 6), uv (D.words 7), uv (D.words 8), uv (D.words 9), uv (D.words 10), uv (D.words 11), uv (D.words 12), uv (D.words 13), uv (D.words 14), uv (D.words 15), uv (D.words 16),
    uv D.last, .bool D.armed, .int .i64 D.left, sv]
/-- Where a disk's parts lie. -/
structure Pl where
  nb : Nat
  lb : Nat
  wa : Option Addr
  wc : Nat
  sa : Option Addr
  sn : Nat
  sc : Nat
/-- The blocks that a call may turn. -/
def fp (g : Nat) (p : Pl) : Nat → Prop := fun k => k = g ∨ k = p.nb ∨ k = p.lb ∨ (Value.slice p.wa 0 0).ownBlock = some k
/-- The block in which stands what a cut keeps: it is read alone. -/
def sp (p : Pl) : Nat → Prop := fun k => ∃ ad, p.sa = some ad ∧ ad.block = k
/-- Block g is a disk; its parts lie as p says; it holds at most N of anything. -/
structure DiskAt (w : World) (B g : Nat) (p : Pl) (N : Nat) (D : Dk) : Prop where
  blk : Blk w g TD (dcells D p.nb p.lb (.slice p.wa D.waits.length p.wc) (.slice p.sa p.sn p.sc))
  now : ∃ n, n ≤ N ∧ MapAt scode Try.prog TI w p.nb n D.now
  lasts : ∃ n, n + D.waits.length ≤ N ∧ MapAt wcode Try.prog TI w p.lb n D.lasts
  waits : w.ownsRow B TW 4 (.slice p.wa D.waits.length p.wc) D.waits.length (D.waits.flatMap wval)
  stays : Lies w 1 p.sa p.sn (D.stays.map (Value.int .i64))
  sn : p.sn ≤ p.sc ∧ p.sc ≤ maxLen ∧ (p.sa = none → p.sn = 0 ∧ p.sc = 0) ∧ (∀ ad, p.sa = some ad → ∃ b, ad = ⟨b, 0, none⟩)
  far : Apart (sp p) (fp g p)
  spl : ∀ k, sp p k → True ∧ k < w.heap.size
  geg : B ≤ g
  gen : B ≤ p.nb
  gel : B ≤ p.lb
  ne : p.nb ≠ p.lb
  seq : D.seq ≤ N
  sane : Sane D
def DiskOut (w : World) (B g : Nat) (p : Pl) (N : Nat) (D : Dk) (w' : World) : Prop :=
  ∃ p', DiskAt w' B g p' N D ∧ Keeps (fp g p) w w' ∧ Grows w (fp g p) (fp g p') ∧ Grows w (sp p) (sp p')

theorem underN : Try.prog.underlying 59 = some (.map TI 9) := Try.underlying59
theorem underL : Try.prog.underlying 60 = some (.map TI TW) := Try.underlying60
theorem underI : Try.prog.underlying TI = some (.int .i64) := Try.underlying3
theorem zeroS (w : World) : (zeroValue 9).run Try.prog w = .ok (scode.enc (ByteArray.mk #[])) w := by kernel_rfl
theorem zeroW (w : World) : (zeroValue TW).run Try.prog w = .ok (wcode.enc wr0) w := by kernel_rfl

section
variable {w w' : World} {B g N : Nat} {p : Pl} {D : Dk}
theorem own_blk {a : Option Addr} {n c : Nat} : (Value.slice a n c).ownBlock = (Value.slice a 0 0).ownBlock := by cases a <;> rfl
theorem DiskAt.lt (h : DiskAt w B g p N D) : ∀ k, fp g p k → k < w.heap.size := by
  intro k hk
  rcases hk with rfl | rfl | rfl | hk
  · exact h.blk.lt
  · obtain ⟨n, _, hm⟩ := h.now; exact hm.lt
  · obtain ⟨n, _, hm⟩ := h.lasts; exact hm.lt
  · exact (h.waits.lt k (by rw [own_blk]; exact hk)).2
theorem DiskAt.ge (h : DiskAt w B g p N D) : ∀ k, fp g p k → B ≤ k := by
  intro k hk
  rcases hk with rfl | rfl | rfl | hk
  · exact h.geg
  · exact h.gen
  · exact h.gel
  · exact (h.waits.lt k (by rw [own_blk]; exact hk)).1
theorem DiskAt.base (h : DiskAt w B g p N D) : B ≤ w.heap.size := by have := h.geg; have := h.blk.lt; omega
theorem DiskAt.neGN (h : DiskAt w B g p N D) : p.nb ≠ g := by obtain ⟨n, _, hm⟩ := h.now; exact hm.blk h.blk
theorem DiskAt.neGL (h : DiskAt w B g p N D) : p.lb ≠ g := by obtain ⟨n, _, hm⟩ := h.lasts; exact hm.blk h.blk
theorem DiskAt.neW (h : DiskAt w B g p N D) : ∀ k, (Value.slice p.wa 0 0).ownBlock = some k → k ≠ g ∧ k ≠ p.nb ∧ k ≠ p.lb := by
  intro k hk
  refine ⟨?_, ?_, ?_⟩
  · rintro rfl
    have := own_ne h.waits h.blk (show TW ≠ TD by decide)
    rw [own_blk] at this
    exact this hk
  · rintro rfl
    obtain ⟨n, _, hm⟩ := h.now
    obtain ⟨es, cl, ho⟩ := hm.obj
    have := own_map_ne h.waits ho
    rw [own_blk] at this
    exact this hk
  · rintro rfl
    obtain ⟨n, _, hm⟩ := h.lasts
    obtain ⟨es, cl, ho⟩ := hm.obj
    have := own_map_ne h.waits ho
    rw [own_blk] at this
    exact this hk
/-- A disk stays what it is while nothing of it is turned. -/
theorem DiskAt.keeps {S : Nat → Prop} (h : DiskAt w B g p N D) (hk : Keeps S w w') (hn : Apart (fp g p) S) (hs : Apart (sp p) S) : DiskAt w' B g p N D := by
  refine ⟨h.blk.keeps hk (fun hs => hn g (.inl rfl) hs), ?_, ?_, own_keeps h.waits hk (fun k hk' hs => hn k (.inr (.inr (.inr (by rw [own_blk] at hk'; exact hk')))) hs), h.stays.keeps (by omega) hk (fun ad e hs' => hs _ ⟨ad, e, rfl⟩ hs'), h.sn, h.far, fun k hk' => ⟨(h.spl k hk').1, Nat.lt_of_lt_of_le (h.spl k hk').2 hk.size⟩, h.geg, h.gen, h.gel, h.ne, h.seq, h.sane⟩
  · obtain ⟨n, h1, h2⟩ := h.now; exact ⟨n, h1, h2.keeps hk (fun hs => hn _ (.inr (.inl rfl)) hs)⟩
  · obtain ⟨n, h1, h2⟩ := h.lasts; exact ⟨n, h1, h2.keeps hk (fun hs => hn _ (.inr (.inr (.inl rfl))) hs)⟩
theorem apart_none (F : Nat → Prop) : Apart F (fun _ => False) := fun _ _ h => h
theorem DiskAt.old (h : DiskAt w B g p N D) (hb : Below w.heap.size w w') : DiskAt w' B g p N D :=
  h.keeps (Keeps.of_below hb (fun _ => False)) (apart_none _) (apart_none _)
theorem DiskAt.alloc (h : DiskAt w B g p N D) (o : Obj) : DiskAt (w.alloc o) B g p N D := h.keeps (S := fun _ => False) ((Keeps.refl _ _).alloc o) (apart_none _) (apart_none _)
theorem DiskAt.drew (h : DiskAt w B g p N D) : DiskAt w.drew B g p N D := h.keeps (S := fun _ => False) ((Keeps.refl _ _).drew) (apart_none _) (apart_none _)
theorem DiskAt.drewN (h : DiskAt w B g p N D) (n : Nat) : DiskAt (w.drewN n) B g p N D := h.keeps (S := fun _ => False) ((Keeps.refl _ _).drewN n) (apart_none _) (apart_none _)
theorem DiskAt.mono (h : DiskAt w B g p N D) {N' : Nat} (hN : N ≤ N') : DiskAt w B g p N' D := by
  obtain ⟨n, h1, h2⟩ := h.now
  obtain ⟨m, h3, h4⟩ := h.lasts
  exact { h with now := ⟨n, by omega, h2⟩, lasts := ⟨m, by omega, h4⟩, seq := by have := h.seq; omega }
theorem DiskAt.out (h : DiskAt w B g p N D) : DiskOut w B g p N D w := ⟨p, h, Keeps.refl _ _, Grows.refl _ _, Grows.refl _ _⟩
theorem DiskOut.then_ {w2 : World} (h : DiskOut w B g p N D w') (hb : Below w'.heap.size w' w2) : DiskOut w B g p N D w2 := by
  obtain ⟨p', h1, h2, h3, h4⟩ := h
  exact ⟨p', h1.old hb, h2.trans (Keeps.of_below hb (fun _ => False)) (fun _ _ h => h.elim), h3, h4⟩
theorem DiskOut.from_ {w0 : World} (hb : Below w0.heap.size w0 w) (h : DiskOut w B g p N D w') : DiskOut w0 B g p N D w' := by
  obtain ⟨p', h1, h2, h3, h4⟩ := h
  exact ⟨p', h1, (Keeps.of_below hb (fp g p)).trans h2 (fun _ _ h => h), fun k hk => (h3 k hk).imp id (fun h => Nat.le_trans hb.size h), fun k hk => (h4 k hk).imp id (fun h => Nat.le_trans hb.size h)⟩
/-- Two calls, one behind the other. -/
theorem DiskOut.seq {N2 : Nat} {D2 : Dk} {w2 : World} (h : DiskOut w B g p N D w') (k : ∀ p', DiskAt w' B g p' N D → DiskOut w' B g p' N2 D2 w2) : DiskOut w B g p N2 D2 w2 := by
  obtain ⟨p', h1, h2, h3, h4⟩ := h
  obtain ⟨p2, k1, k2, k3, k4⟩ := k p' h1
  exact ⟨p2, k1, h2.then_ h3 k2, h3.trans h2.size k3, h4.trans h2.size k4⟩
theorem DiskOut.mono (h : DiskOut w B g p N D w') {N' : Nat} (hN : N ≤ N') : DiskOut w B g p N' D w' := by
  obtain ⟨p', h1, h2⟩ := h; exact ⟨p', h1.mono hN, h2⟩
/-- Cells of the disk's own block are turned; its parts stand where they stood. -/
theorem DiskAt.turn {D' : Dk} (h : DiskAt w B g p N D) (hk : Keeps (only g) w w') (hb : Blk w' g TD (dcells D' p.nb p.lb (.slice p.wa D'.waits.length p.wc) (.slice p.sa p.sn p.sc)))
    (e1 : D'.now = D.now) (e2 : D'.lasts = D.lasts) (e3 : D'.waits = D.waits) (e4 : D'.stays = D.stays) (e5 : D'.seq ≤ N) (e6 : Sane D') : DiskAt w' B g p N D' := by
  refine ⟨hb, ?_, ?_, ?_, ?_, h.sn, h.far, fun k hk' => ⟨(h.spl k hk').1, Nat.lt_of_lt_of_le (h.spl k hk').2 hk.size⟩, h.geg, h.gen, h.gel, h.ne, e5, e6⟩
  · obtain ⟨n, h1, h2⟩ := h.now; rw [e1]; exact ⟨n, h1, h2.keeps hk h.neGN⟩
  · obtain ⟨n, h1, h2⟩ := h.lasts; rw [e2, e3]; exact ⟨n, h1, h2.keeps hk h.neGL⟩
  · rw [e3]; exact own_keeps h.waits hk (fun k hk' => (h.neW k (by rw [own_blk] at hk'; exact hk')).1)
  · rw [e4]; exact h.stays.keeps (by omega) hk (fun ad e hs => h.far _ ⟨ad, e, rfl⟩ (.inl hs))
theorem DiskAt.turnOut {D' : Dk} (h : DiskAt w B g p N D) (hk : Keeps (only g) w w') (hb : Blk w' g TD (dcells D' p.nb p.lb (.slice p.wa D'.waits.length p.wc) (.slice p.sa p.sn p.sc)))
    (e1 : D'.now = D.now) (e2 : D'.lasts = D.lasts) (e3 : D'.waits = D.waits) (e4 : D'.stays = D.stays) (e5 : D'.seq ≤ N) (e6 : Sane D') : DiskOut w B g p N D' w' :=
  ⟨p, h.turn hk hb e1 e2 e3 e4 e5 e6, hk.mono (fun k _ e => .inl e), Grows.refl _ _, Grows.refl _ _⟩
end

/-! ### the cells of a disk's block -/
section
variable (D : Dk) (nb lb : Nat) (wv sv : Value)
theorem node_cases {n : Int} (h : inNode n = true) : n = 0 ∨ n = 1 ∨ n = 2 ∨ n = 3 ∨ n = 4 ∨ n = 5 ∨ n = 6 ∨ n = 7 ∨ n = 8 ∨ n = 9 ∨ n = 10 ∨ n = 11 ∨ n = 12 ∨ n = 13 ∨ n = 14 ∨ n = 15 ∨ n = 16 := by
  unfold inNode at h
  simp at h
  omega
theorem cell_tab {n : Int} (h : inNode n = true) : (dcells D nb lb wv sv)[6 + n.toNat]? = some (uv (D.table n)) := by
  rcases node_cases h with rfl | rfl | rfl | rfl | rfl | rfl | rfl | rfl | rfl | rfl | rfl | rfl | rfl | rfl | rfl | rfl | rfl <;> rfl
theorem cell_word {n : Int} (h : inNode n = true) : (dcells D nb lb wv sv)[23 + n.toNat]? = some (uv (D.words n)) := by
  rcases node_cases h with rfl | rfl | rfl | rfl | rfl | rfl | rfl | rfl | rfl | rfl | rfl | rfl | rfl | rfl | rfl | rfl | rfl <;> rfl
theorem set_tab {n : Int} (h : inNode n = true) (v : Int) : (dcells D nb lb wv sv).setIfInBounds (6 + n.toNat) (uv v) = dcells { D with table := updF D.table n v } nb lb wv sv := by
  rcases node_cases h with rfl | rfl | rfl | rfl | rfl | rfl | rfl | rfl | rfl | rfl | rfl | rfl | rfl | rfl | rfl | rfl | rfl <;> rfl
theorem set_word {n : Int} (h : inNode n = true) (v : Int) : (dcells D nb lb wv sv).setIfInBounds (23 + n.toNat) (uv v) = dcells { D with words := updF D.words n v } nb lb wv sv := by
  rcases node_cases h with rfl | rfl | rfl | rfl | rfl | rfl | rfl | rfl | rfl | rfl | rfl | rfl | rfl | rfl | rfl | rfl | rfl <;> rfl
theorem set_on (v : Bool) : (dcells D nb lb wv sv).setIfInBounds 1 (.bool v) = dcells { D with on := v } nb lb wv sv := rfl
theorem set_seq (v : Nat) : (dcells D nb lb wv sv).setIfInBounds 2 (.int .i64 (v : Int)) = dcells { D with seq := v } nb lb wv sv := rfl
theorem set_now (v : Nat) : (dcells D nb lb wv sv).setIfInBounds 3 (.map (some v)) = dcells D v lb wv sv := rfl
theorem set_waits (v : Value) : (dcells D nb lb wv sv).setIfInBounds 5 v = dcells D nb lb v sv := rfl
theorem set_last (v : Int) : (dcells D nb lb wv sv).setIfInBounds 40 (uv v) = dcells { D with last := v } nb lb wv sv := rfl
theorem set_armed (v : Bool) : (dcells D nb lb wv sv).setIfInBounds 41 (.bool v) = dcells { D with armed := v } nb lb wv sv := rfl
theorem set_left (v : Int) : (dcells D nb lb wv sv).setIfInBounds 42 (.int .i64 v) = dcells { D with left := v } nb lb wv sv := rfl
theorem set_stays (v : Value) : (dcells D nb lb wv sv).setIfInBounds 43 v = dcells D nb lb wv v := rfl
end
end Go.Proofs.Ytacogpogplionaa.DK
