/- The ring's shape in memory, whatever its elements ('val' lays one of them in 'sz' cells). No condition. -/
import Derived.Test.YtanhdcffbdhkcaaRingDef
import Derived.Test.YtanhdcffbdhkcaaSeg
namespace Go.Proofs.Ytanhdcffbdhkcaa
set_option maxRecDepth 100000
open Go.RowKit
set_option linter.unusedVariables false

/-- Block g is a ring (type T, elements of type e) of room 'most' that holds xs. Its blocks are numbered from B on. -/
structure RingAtN {α : Type} (val : α → List Value) (sz : Nat) (T e : TypeId) (w : World) (B g most : Nat) (a : Option Addr) (c : Nat) (xs : List α) : Prop where
  blk : Blk w g T #[.slice a xs.length c, .int .i64 (most : Int)]
  own : w.ownsRow B e sz (.slice a xs.length c) xs.length (xs.flatMap val)
  ge : B ≤ g
  le : xs.length ≤ most
  lem : most ≤ 100000

/-- What a call leaves that may lay the ring's row anew. -/
def RingOutN {α : Type} (val : α → List Value) (sz : Nat) (T e : TypeId) (w : World) (B g most : Nat) (a : Option Addr) (ys : List α) (w' : World) : Prop :=
  ∃ a' c', RingAtN val sz T e w' B g most a' c' ys ∧ Keeps (ringF g a) w w' ∧ Grows w (ringF g a) (ringF g a')
theorem Lies.cutN {w : World} {b k c n sz : Nat} {xs : List Value} (h : Lies w sz (some ⟨b, 0, none⟩) n xs) (hk : k ≤ n) (hc : n ≤ c) : Lies w sz (if c = k then some ⟨b, 0, none⟩ else some ⟨b, k * sz, none⟩) (n - k) (xs.drop (k * sz)) := by
  refine ⟨by rw [List.length_drop, h.1, Nat.sub_mul], fun hn => ?_⟩
  rw [if_neg (by omega)]
  refine ⟨_, rfl, fun j u hu => ?_⟩
  obtain ⟨ad, e, hcell⟩ := h.2 (by omega)
  cases e
  rw [List.getElem?_drop] at hu
  rw [← hcell _ u hu, addr_add, addr_add, Nat.zero_add]
section
variable {α : Type} {val : α → List Value} {sz : Nat} {T e : TypeId} {w w' : World} {B g most : Nat} {a : Option Addr} {c : Nat} {xs : List α}

theorem RingAtN.lt (h : RingAtN val sz T e w B g most a c xs) : ∀ k, ringF g a k → k < w.heap.size := by
  intro k hk
  rcases hk with rfl | hk
  · exact h.blk.lt
  · exact (h.own.lt k ((own_blk _ _ _).trans hk)).2
theorem RingAtN.geF (h : RingAtN val sz T e w B g most a c xs) : ∀ k, ringF g a k → B ≤ k := by
  intro k hk
  rcases hk with rfl | hk
  · exact h.ge
  · exact (h.own.lt k ((own_blk _ _ _).trans hk)).1
theorem RingAtN.base (h : RingAtN val sz T e w B g most a c xs) : B ≤ w.heap.size := by have := h.ge; have := h.blk.lt; omega
theorem RingAtN.keeps {S : Nat → Prop} (h : RingAtN val sz T e w B g most a c xs) (hk : Keeps S w w') (hn : Apart (ringF g a) S) : RingAtN val sz T e w' B g most a c xs :=
  ⟨h.blk.keeps hk (fun hs => hn g (.inl rfl) hs), own_keeps h.own hk (fun k hk' hs => hn k (.inr ((own_blk _ _ _).symm.trans hk')) hs), h.ge, h.le, h.lem⟩
theorem RingAtN.drewN (h : RingAtN val sz T e w B g most a c xs) (n : Nat) : RingAtN val sz T e (w.drewN n) B g most a c xs := ⟨h.blk, h.own, h.ge, h.le, h.lem⟩
theorem RingAtN.drew (h : RingAtN val sz T e w B g most a c xs) : RingAtN val sz T e w.drew B g most a c xs := ⟨h.blk, h.own, h.ge, h.le, h.lem⟩
theorem RingAtN.alloc (h : RingAtN val sz T e w B g most a c xs) (o : Obj) : RingAtN val sz T e (w.alloc o) B g most a c xs :=
  h.keeps (S := fun _ => False) ((Keeps.refl _ _).alloc o) (fun _ _ h => h)
theorem RingAtN.below {Bk : Nat} (h : RingAtN val sz T e w B g most a c xs) (hb : Below Bk w w') (hn : ∀ k, ringF g a k → k < Bk) : RingAtN val sz T e w' B g most a c xs :=
  h.keeps (S := fun k => Bk ≤ k) ⟨hb.os, hb.tape, hb.output, hb.size, fun k _ hk => hb.block k (by omega)⟩ (fun k h1 h2 => by have := hn k h1; omega)
theorem RingAtN.cell0 (h : RingAtN val sz T e w B g most a c xs) : w.cell? ⟨g, 0, none⟩ = some (.slice a xs.length c) := by rw [h.blk.cell]; rfl
theorem RingAtN.cell1 (h : RingAtN val sz T e w B g most a c xs) : w.cell? ⟨g, 1, none⟩ = some (.int .i64 (most : Int)) := by rw [h.blk.cell]; rfl
theorem RingAtN.free (h : RingAtN val sz T e w B g most a c xs) (i : Nat) : w.frozen? ⟨g, i, none⟩ = false := h.blk.frozen i
theorem RingAtN.capLe (h : RingAtN val sz T e w B g most a c xs) : xs.length ≤ c := by
  rcases h.own.2 with ⟨h0, h1⟩ | ⟨g', cap, cur, h0, _, _, h1, _⟩
  · injection h0 with _ _ h2; omega
  · injection h0 with _ _ h2; omega
theorem RingAtN.capMax (h : RingAtN val sz T e w B g most a c xs) : c ≤ maxLen := by
  rcases h.own.2 with ⟨h0, h1⟩ | ⟨g', cap, cur, h0, _, _, h1, h2, _⟩
  · injection h0 with _ _ h3; omega
  · injection h0 with _ _ h3; omega
theorem RingAtN.lies (h : RingAtN val sz T e w B g most a c xs) : Lies w sz a xs.length (xs.flatMap val) := Lies.of_own h.own
theorem flat_len (hv : ∀ x, (val x).length = sz) (xs : List α) : (xs.flatMap val).length = xs.length * sz := by
  induction xs with
  | nil => simp
  | cons x xs ih => simp [ih, hv, Nat.add_mul, Nat.add_comm]
theorem flat_at (hv : ∀ x, (val x).length = sz) (xs : List α) (k j : Nat) (hk : k < xs.length) (hj : j < sz) : (xs.flatMap val)[k * sz + j]? = (val xs[k])[j]? := by
  induction xs generalizing k with
  | nil => simp at hk
  | cons x xs ih =>
    rw [List.flatMap_cons]
    cases k with
    | zero => rw [Nat.zero_mul, Nat.zero_add, List.getElem?_append_left (by rw [hv]; exact hj)]; rfl
    | succ k =>
      rw [List.getElem?_append_right (by rw [hv, Nat.add_mul]; omega), hv, show (k + 1) * sz + j - sz = k * sz + j by rw [Nat.add_mul]; omega]
      exact ih k (by simpa using hk)
theorem flat_take (hv : ∀ x, (val x).length = sz) (xs : List α) (k : Nat) : (xs.flatMap val).take (k * sz) = (xs.take k).flatMap val := by
  induction xs generalizing k with
  | nil => simp
  | cons x xs ih =>
    cases k with
    | zero => simp
    | succ k =>
      rw [List.flatMap_cons, List.take_succ_cons, List.flatMap_cons, List.take_append, hv, show (k + 1) * sz - sz = k * sz by rw [Nat.add_mul]; omega, ih, List.take_of_length_le (by rw [hv, Nat.add_mul]; omega)]
theorem flat_drop (hv : ∀ x, (val x).length = sz) (xs : List α) (k : Nat) : (xs.flatMap val).drop (k * sz) = (xs.drop k).flatMap val := by
  induction xs generalizing k with
  | nil => simp
  | cons x xs ih =>
    cases k with
    | zero => simp
    | succ k =>
      rw [List.flatMap_cons, List.drop_succ_cons, List.drop_append, hv, show (k + 1) * sz - sz = k * sz by rw [Nat.add_mul]; omega, ih, List.drop_of_length_le (by rw [hv, Nat.add_mul]; omega), List.nil_append]
theorem RingAtN.cellAt (h : RingAtN val sz T e w B g most a c xs) (hv : ∀ x, (val x).length = sz) {k : Nat} (hk : k < xs.length) : ∃ b, a = some ⟨b, 0, none⟩ ∧ ∀ j u, (val xs[k])[j]? = some u → w.cell? ⟨b, k * sz + j, none⟩ = some u ∧ w.frozen? ⟨b, k * sz + j, none⟩ = false := by
  obtain ⟨b, cap, hv1, _, _⟩ := h.own.form (by omega)
  injection hv1 with hv1 hv2 hv3
  subst hv1
  refine ⟨b, rfl, fun j u hu => ⟨?_, ?_⟩⟩
  · have hj : j < sz := by
      rcases Nat.lt_or_ge j sz with h | h
      · exact h
      · rw [List.getElem?_eq_none (by rw [hv]; exact h)] at hu; cases hu
    have hc := h.own.cells (g := b) rfl (k * sz + j) u (by rw [flat_at hv xs k j hk hj, hu])
    rw [← hc, addr_add, Nat.zero_add]
  · rcases h.own.2 with ⟨h0, _⟩ | ⟨g', cap', cur, h0, _, hh, _⟩
    · injection h0 with h1 _ _; cases h1
    · injection h0 with h1 _ _
      injection h1 with h1
      injection h1 with h1 _
      subst h1
      simp [World.frozen?, hh]

/-- The field 'l' is laid anew over a row that was made, or grown, ahead of it. -/
theorem RingAtN.put {w1 : World} {a' : Option Addr} {c' n' : Nat} {ys : List α} (h : RingAtN val sz T e w B g most a c xs) (hT : e ≠ T)
    (hk : Keeps (fun k => (Value.slice a 0 0).ownBlock = some k) w w1) (hown : w1.ownsRow B e sz (.slice a' n' c') n' (ys.flatMap val)) (hn : n' = ys.length) (hle : ys.length ≤ most)
    (hat : ∀ k, (Value.slice a' 0 0).ownBlock = some k → (Value.slice a 0 0).ownBlock = some k ∨ w.heap.size ≤ k) :
    RingAtN val sz T e (w1.setCell ⟨g, 0, none⟩ (.slice a' n' c')) B g most a' c' ys ∧ Keeps (ringF g a) w (w1.setCell ⟨g, 0, none⟩ (.slice a' n' c')) ∧ Grows w (ringF g a) (ringF g a') := by
  subst hn
  have hne : (Value.slice a 0 0).ownBlock ≠ some g := by have := own_ne h.own h.blk hT; rwa [own_blk] at this
  have hb1 : Blk w1 g T #[.slice a xs.length c, .int .i64 (most : Int)] := h.blk.keeps hk hne
  have hne' : (Value.slice a' 0 0).ownBlock ≠ some g := fun e => by
    rcases hat g e with h1 | h1
    · exact hne h1
    · have := h.blk.lt; omega
  refine ⟨⟨?_, ?_, h.ge, hle, h.lem⟩, ?_, ?_⟩
  · exact hb1.set_ 0 _
  · exact own_keeps hown ((Keeps.refl (fun k => k = g) w1).setCell (fun _ => rfl) _) (fun k hk' hs => hne' (by rw [← own_blk a' ys.length c', hk', hs]))
  · exact Keeps.setCell (S := ringF g a) (p := ⟨g, 0, none⟩) (hk.mono (fun k _ hk' => Or.inr hk')) (fun _ => .inl rfl) _
  · intro k hk'
    rcases hk' with hk' | hk'
    · exact .inl (.inl hk')
    · rcases hat k hk' with h1 | h1
      · exact .inl (.inr h1)
      · exact .inr h1

theorem RingAtN.base_ {B' : Nat} (h : RingAtN val sz T e w B g most a c xs) (hB : B' ≤ B) : RingAtN val sz T e w B' g most a c xs :=
  ⟨h.blk, own_base h.own (fun k hk => Nat.le_trans hB (h.own.lt k hk).1), Nat.le_trans hB h.ge, h.le, h.lem⟩

theorem RingAtN.after {w0 : World} (h : RingAtN val sz T e w B g most a c xs) (hb : Below B w0 w) (hk : Keeps (ringF g a) w w') : Below B w0 w' := hk.after hb h.geF h.base
end
end Go.Proofs.Ytanhdcffbdhkcaa
