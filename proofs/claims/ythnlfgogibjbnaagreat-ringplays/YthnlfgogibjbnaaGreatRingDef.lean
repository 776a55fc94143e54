/- The ring's shape in memory, whatever its elements ('val' lays one of them in one cell). No condition. -/
import Derived.Test.YthnlfgogibjbnaaGreatBase
namespace Go.Proofs.YthnlfgogibjbnaaGreat
set_option maxRecDepth 100000
open Go.RowKit
set_option linter.unusedVariables false

/-- Block g is a ring (type T, elements of type e) of room 'most' that holds xs. Its blocks are numbered from B on. -/
structure RingAt {α : Type} (val : α → Value) (T e : TypeId) (w : World) (B g most : Nat) (a : Option Addr) (c : Nat) (xs : List α) : Prop where
  blk : Blk w g T #[.slice a xs.length c, .int .i64 (most : Int)]
  own : w.ownsRow B e 1 (.slice a xs.length c) xs.length (xs.map val)
  ge : B ≤ g
  le : xs.length ≤ most
  lem : most ≤ 100000

theorem own_blk (a : Option Addr) (n c : Nat) : (Value.slice a n c).ownBlock = (Value.slice a 0 0).ownBlock := by cases a <;> rfl

/-- Its blocks. -/
def ringF (g : Nat) (a : Option Addr) : Nat → Prop := fun k => k = g ∨ (Value.slice a 0 0).ownBlock = some k

/-- What a call leaves that may lay the ring's row anew. -/
def RingOut {α : Type} (val : α → Value) (T e : TypeId) (w : World) (B g most : Nat) (a : Option Addr) (ys : List α) (w' : World) : Prop :=
  ∃ a' c', RingAt val T e w' B g most a' c' ys ∧ Keeps (ringF g a) w w' ∧ Grows w (ringF g a) (ringF g a')
/-- A call hands back a slice in new memory. -/
def NewSlice (E : TypeId) (size : Nat) (w : World) (n : Nat) (cells : List Value) (e : Ending) (w' : World) : Prop :=
  ∃ a' c', e = .returned (.slice a' n c') ∧ w'.ownsRow w.heap.size E size (.slice a' n c') n cells ∧ Keeps (fun _ => False) w w'

section
variable {α : Type} {val : α → Value} {T e : TypeId} {w w' : World} {B g most : Nat} {a : Option Addr} {c : Nat} {xs : List α}

theorem RingAt.lt (h : RingAt val T e w B g most a c xs) : ∀ k, ringF g a k → k < w.heap.size := by
  intro k hk
  rcases hk with rfl | hk
  · exact h.blk.lt
  · exact (h.own.lt k ((own_blk _ _ _).trans hk)).2
theorem RingAt.geF (h : RingAt val T e w B g most a c xs) : ∀ k, ringF g a k → B ≤ k := by
  intro k hk
  rcases hk with rfl | hk
  · exact h.ge
  · exact (h.own.lt k ((own_blk _ _ _).trans hk)).1
theorem RingAt.base (h : RingAt val T e w B g most a c xs) : B ≤ w.heap.size := by have := h.ge; have := h.blk.lt; omega
theorem RingAt.keeps {S : Nat → Prop} (h : RingAt val T e w B g most a c xs) (hk : Keeps S w w') (hn : Apart (ringF g a) S) : RingAt val T e w' B g most a c xs :=
  ⟨h.blk.keeps hk (fun hs => hn g (.inl rfl) hs), own_keeps h.own hk (fun k hk' hs => hn k (.inr ((own_blk _ _ _).symm.trans hk')) hs), h.ge, h.le, h.lem⟩
theorem RingAt.drewN (h : RingAt val T e w B g most a c xs) (n : Nat) : RingAt val T e (w.drewN n) B g most a c xs := ⟨h.blk, h.own, h.ge, h.le, h.lem⟩
theorem RingAt.drew (h : RingAt val T e w B g most a c xs) : RingAt val T e w.drew B g most a c xs := ⟨h.blk, h.own, h.ge, h.le, h.lem⟩
theorem RingAt.alloc (h : RingAt val T e w B g most a c xs) (o : Obj) : RingAt val T e (w.alloc o) B g most a c xs :=
  h.keeps (S := fun _ => False) ((Keeps.refl _ _).alloc o) (fun _ _ h => h)
theorem RingAt.below {Bk : Nat} (h : RingAt val T e w B g most a c xs) (hb : Below Bk w w') (hn : ∀ k, ringF g a k → k < Bk) : RingAt val T e w' B g most a c xs :=
  h.keeps (S := fun k => Bk ≤ k) ⟨hb.os, hb.tape, hb.output, hb.size, fun k _ hk => hb.block k (by omega)⟩ (fun k h1 h2 => by have := hn k h1; omega)
theorem RingAt.cell0 (h : RingAt val T e w B g most a c xs) : w.cell? ⟨g, 0, none⟩ = some (.slice a xs.length c) := by rw [h.blk.cell]; rfl
theorem RingAt.cell1 (h : RingAt val T e w B g most a c xs) : w.cell? ⟨g, 1, none⟩ = some (.int .i64 (most : Int)) := by rw [h.blk.cell]; rfl
theorem RingAt.free (h : RingAt val T e w B g most a c xs) (i : Nat) : w.frozen? ⟨g, i, none⟩ = false := h.blk.frozen i
theorem RingAt.capLe (h : RingAt val T e w B g most a c xs) : xs.length ≤ c := by
  rcases h.own.2 with ⟨h0, h1⟩ | ⟨g', cap, cur, h0, _, _, h1, _⟩
  · injection h0 with _ _ h2; omega
  · injection h0 with _ _ h2; omega
theorem RingAt.capMax (h : RingAt val T e w B g most a c xs) : c ≤ maxLen := by
  rcases h.own.2 with ⟨h0, h1⟩ | ⟨g', cap, cur, h0, _, _, h1, h2, _⟩
  · injection h0 with _ _ h3; omega
  · injection h0 with _ _ h3; omega
theorem RingAt.lies (h : RingAt val T e w B g most a c xs) : Lies w 1 a xs.length (xs.map val) := Lies.of_own h.own
theorem RingAt.cellAt (h : RingAt val T e w B g most a c xs) {k : Nat} (hk : k < xs.length) : ∃ b, a = some ⟨b, 0, none⟩ ∧ w.cell? ⟨b, k, none⟩ = some (val xs[k]) ∧ w.frozen? ⟨b, k, none⟩ = false := by
  obtain ⟨b, cap, hv, _, _⟩ := h.own.form (by omega)
  injection hv with hv1 hv2 hv3
  subst hv1
  refine ⟨b, rfl, ?_, ?_⟩
  · have hc := h.own.cells (g := b) rfl k (val xs[k]) (by simp [List.getElem?_eq_getElem hk])
    rw [← hc]; congr 1; unfold Addr.add; split <;> simp_all
  · rcases h.own.2 with ⟨h0, _⟩ | ⟨g', cap', cur, h0, _, hh, _⟩
    · injection h0 with h1 _ _; cases h1
    · injection h0 with h1 _ _
      injection h1 with h1
      injection h1 with h1 _
      subst h1
      simp [World.frozen?, hh]

/-- The field 'l' is laid anew over a row that was made, or grown, ahead of it. -/
theorem RingAt.put {w1 : World} {a' : Option Addr} {c' n' : Nat} {ys : List α} (h : RingAt val T e w B g most a c xs) (hT : e ≠ T)
    (hk : Keeps (fun k => (Value.slice a 0 0).ownBlock = some k) w w1) (hown : w1.ownsRow B e 1 (.slice a' n' c') n' (ys.map val)) (hn : n' = ys.length) (hle : ys.length ≤ most)
    (hat : ∀ k, (Value.slice a' 0 0).ownBlock = some k → (Value.slice a 0 0).ownBlock = some k ∨ w.heap.size ≤ k) :
    RingAt val T e (w1.setCell ⟨g, 0, none⟩ (.slice a' n' c')) B g most a' c' ys ∧ Keeps (ringF g a) w (w1.setCell ⟨g, 0, none⟩ (.slice a' n' c')) ∧ Grows w (ringF g a) (ringF g a') := by
  subst hn
  have hne : (Value.slice a 0 0).ownBlock ≠ some g := by have := own_ne h.own h.blk hT; rwa [own_blk] at this
  have hb1 : Blk w1 g T #[.slice a xs.length c, .int .i64 (most : Int)] := h.blk.keeps hk hne
  have hne' : (Value.slice a' 0 0).ownBlock ≠ some g := fun e => by
    rcases hat g e with h1 | h1
    · exact hne h1
    · have := h.blk.lt; omega
  refine ⟨⟨?_, ?_, h.ge, hle, h.lem⟩, ?_, ?_⟩
  · exact hb1.set_ 0 _
  · exact own_keeps hown ((Keeps.refl (fun k => k = g) w1).setCell (fun _ => rfl) _) (fun k hk' hs => hne' (by rw [← own_blk a' ys.length c', hk', hs]))
  · exact Keeps.setCell (S := ringF g a) (p := ⟨g, 0, none⟩) (hk.mono (fun k _ hk' => Or.inr hk')) (fun _ => .inl rfl) _
  · intro k hk'
    rcases hk' with hk' | hk'
    · exact .inl (.inl hk')
    · rcases hat k hk' with h1 | h1
      · exact .inl (.inr h1)
      · exact .inr h1

theorem RingAt.base_ {B' : Nat} (h : RingAt val T e w B g most a c xs) (hB : B' ≤ B) : RingAt val T e w B' g most a c xs :=
  ⟨h.blk, own_base h.own (fun k hk => Nat.le_trans hB (h.own.lt k hk).1), Nat.le_trans hB h.ge, h.le, h.lem⟩

/-- A cell of the row is laid anew. -/
theorem RingAt.set_ {b k : Nat} (h : RingAt val T e w B g most a c xs) (hT : e ≠ T) (ha : a = some ⟨b, 0, none⟩) (x : α) :
    RingAt val T e (w.setCell ⟨b, k, none⟩ (val x)) B g most a c (xs.set k x) ∧ Keeps (ringF g a) w (w.setCell ⟨b, k, none⟩ (val x)) := by
  subst ha
  have hne := own_ne h.own h.blk hT
  refine ⟨⟨?_, ?_, h.ge, by simpa using h.le, h.lem⟩, ?_⟩
  · have := h.blk.far (p := ⟨b, k, none⟩) (fun e => hne (by simp [Value.ownBlock, e])) (val x)
    simpa using this
  · have hs := (h.own.stored k (val x)).1
    simp only [List.length_set, List.map_set]
    simpa using hs
  · exact (Keeps.refl _ w).setCell (fun _ => Or.inr (by simp [Value.ownBlock])) _
theorem RingAt.after {w0 : World} (h : RingAt val T e w B g most a c xs) (hb : Below B w0 w) (hk : Keeps (ringF g a) w w') : Below B w0 w' := hk.after hb h.geF h.base
end
end Go.Proofs.YthnlfgogibjbnaaGreat
