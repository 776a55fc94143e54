/- A net in memory: its block, its ring of datagrams, its set of cut pairs. No condition. -/
import Derived.Test.YtanhdcffbdhkcaaRingP
import Derived.Test.YtanhdcffbdhkcaaCutMap
namespace Go.Proofs.Ytanhdcffbdhkcaa.NT
set_option maxRecDepth 100000
open Go.RowKit Go.Proofs.Ytanhdcffbdhkcaa.RP Go.Proofs.Ytanhdcffbdhkcaa.CM
set_option linter.unusedVariables false

abbrev TN : TypeId := 47
abbrev TR : TypeId := 71
abbrev TP : TypeId := 28
def lptr (lp : Option Nat) : Value := .pointer (lp.map fun r => ⟨r, 0, none⟩)
def RingPart (w : World) (B : Nat) (lp : Option Nat) (a : Option Addr) (c : Nat) (xs : List Pk) : Prop :=
  (lp = none ∧ a = none ∧ xs = []) ∨ ∃ r, lp = some r ∧ RingAtN val 3 TR TP w B r 900 a c xs
def CutPart (w : World) (B : Nat) (mp : Option Nat) (N : Nat) (C : Int → Int → Bool) : Prop :=
  (mp = none ∧ C = fun _ _ => false) ∨ ∃ b n, mp = some b ∧ B ≤ b ∧ n ≤ N ∧ CutsAt w b n C
/-- Block g is a net that holds xs, and in which C says who is cut from whom. -/
structure NetAt (w : World) (B g : Nat) (lp : Option Nat) (a : Option Addr) (c : Nat) (mp : Option Nat) (N : Nat) (xs : List Pk) (C : Int → Int → Bool) : Prop where
  blk : Blk w g TN #[lptr lp, .map mp]
  ring : RingPart w B lp a c xs
  cuts : CutPart w B mp N C
  ge : B ≤ g
def netF (g : Nat) (lp : Option Nat) (a : Option Addr) (mp : Option Nat) : Nat → Prop := fun k => k = g ∨ lp = some k ∨ (Value.slice a 0 0).ownBlock = some k ∨ mp = some k
def NetOut (w : World) (B g : Nat) (lp : Option Nat) (a : Option Addr) (mp : Option Nat) (N : Nat) (xs : List Pk) (C : Int → Int → Bool) (w' : World) : Prop :=
  ∃ lp' a' c' mp', NetAt w' B g lp' a' c' mp' N xs C ∧ Keeps (netF g lp a mp) w w' ∧ Grows w (netF g lp a mp) (netF g lp' a' mp')

section
variable {w w' : World} {B g N : Nat} {lp mp : Option Nat} {a : Option Addr} {c : Nat} {xs : List Pk} {C : Int → Int → Bool}
theorem own_map {w : World} {B : Nat} {e : TypeId} {size n b : Nat} {v : Value} {ys : List Value} {es : Array MapEntry} {clock : Nat} (h : w.ownsRow B e size v n ys) (hb : w.heap[b]? = some (.map es clock)) : v.ownBlock ≠ some b := by
  rcases h.2 with ⟨rfl, _⟩ | ⟨g', cap, cur, rfl, _, hh, _⟩
  · simp [Value.ownBlock]
  · intro he
    have : g' = b := by simpa [Value.ownBlock] using he
    subst this
    rw [hh] at hb; cases hb
theorem CutsAt.obj {b n : Nat} (h : CutsAt w b n C) : ∃ es clock, w.heap[b]? = some (.map es clock) := by
  obtain ⟨D, ⟨es, clock, hb, _⟩, _⟩ := h
  exact ⟨es, clock, hb⟩
theorem CutPart.keeps {S : Nat → Prop} (h : CutPart w B mp N C) (hk : Keeps S w w') (hn : ∀ b, mp = some b → ¬ S b) : CutPart w' B mp N C := by
  rcases h with h | ⟨b, n, rfl, h1, h2, h3⟩
  · exact .inl h
  · exact .inr ⟨b, n, rfl, h1, h2, h3.keeps hk (hn b rfl)⟩
theorem RingPart.keeps {S : Nat → Prop} (h : RingPart w B lp a c xs) (hk : Keeps S w w') (hn : ∀ k, lp = some k ∨ (Value.slice a 0 0).ownBlock = some k → ¬ S k) : RingPart w' B lp a c xs := by
  rcases h with h | ⟨r, rfl, h⟩
  · exact .inl h
  · refine .inr ⟨r, rfl, h.keeps hk fun k hk hs => ?_⟩
    rcases hk with rfl | hk
    · exact hn _ (.inl rfl) hs
    · exact hn _ (.inr hk) hs
theorem NetAt.keeps {S : Nat → Prop} (h : NetAt w B g lp a c mp N xs C) (hk : Keeps S w w') (hn : Apart (netF g lp a mp) S) : NetAt w' B g lp a c mp N xs C :=
  ⟨h.blk.keeps hk (fun hs => hn g (.inl rfl) hs), h.ring.keeps hk (fun k h1 hs => hn k (h1.elim (fun h => .inr (.inl h)) (fun h => .inr (.inr (.inl h)))) hs), h.cuts.keeps hk (fun b hb hs => hn b (.inr (.inr (.inr hb))) hs), h.ge⟩
theorem NetAt.alloc (h : NetAt w B g lp a c mp N xs C) (o : Obj) : NetAt (w.alloc o) B g lp a c mp N xs C := h.keeps (S := fun _ => False) ((Keeps.refl _ _).alloc o) (fun _ _ h => h)
theorem NetAt.drewN (h : NetAt w B g lp a c mp N xs C) (n : Nat) : NetAt (w.drewN n) B g lp a c mp N xs C := h.keeps (S := fun _ => False) ((Keeps.refl _ _).drewN n) (fun _ _ h => h)
theorem NetAt.drew (h : NetAt w B g lp a c mp N xs C) : NetAt w.drew B g lp a c mp N xs C := h.keeps (S := fun _ => False) ((Keeps.refl _ _).drew) (fun _ _ h => h)
theorem NetAt.lt (h : NetAt w B g lp a c mp N xs C) : ∀ k, netF g lp a mp k → k < w.heap.size := by
  intro k hk
  rcases hk with rfl | hk | hk | hk
  · exact h.blk.lt
  · rcases h.ring with ⟨h0, _⟩ | ⟨r, h0, hr⟩
    · rw [h0] at hk; cases hk
    · rw [h0] at hk; injection hk with hk; exact hr.lt k (.inl hk.symm)
  · rcases h.ring with ⟨_, h0, _⟩ | ⟨r, h0, hr⟩
    · rw [h0] at hk; simp [Value.ownBlock] at hk
    · exact hr.lt k (.inr hk)
  · rcases h.cuts with ⟨h0, _⟩ | ⟨b, n, h0, _, _, hc⟩
    · rw [h0] at hk; cases hk
    · rw [h0] at hk; injection hk with hk; subst hk; exact hc.lt
theorem NetAt.geF (h : NetAt w B g lp a c mp N xs C) : ∀ k, netF g lp a mp k → B ≤ k := by
  intro k hk
  rcases hk with rfl | hk | hk | hk
  · exact h.ge
  · rcases h.ring with ⟨h0, _⟩ | ⟨r, h0, hr⟩
    · rw [h0] at hk; cases hk
    · rw [h0] at hk; injection hk with hk; exact hr.geF k (.inl hk.symm)
  · rcases h.ring with ⟨_, h0, _⟩ | ⟨r, h0, hr⟩
    · rw [h0] at hk; simp [Value.ownBlock] at hk
    · exact hr.geF k (.inr hk)
  · rcases h.cuts with ⟨h0, _⟩ | ⟨b, n, h0, h1, _, hc⟩
    · rw [h0] at hk; cases hk
    · rw [h0] at hk; injection hk with hk; subst hk; exact h1
theorem NetAt.old (h : NetAt w B g lp a c mp N xs C) (hb : Below w.heap.size w w') : NetAt w' B g lp a c mp N xs C :=
  h.keeps (Keeps.of_below hb (fun _ => False)) (fun _ _ h => h)
theorem NetAt.base (h : NetAt w B g lp a c mp N xs C) : B ≤ w.heap.size := by have := h.ge; have := h.blk.lt; omega
theorem NetAt.out (h : NetAt w B g lp a c mp N xs C) : NetOut w B g lp a mp N xs C w := ⟨lp, a, c, mp, h, Keeps.refl _ _, Grows.refl _ _⟩
/-- A call that only makes memory behind one that turned the net. -/
theorem NetOut.then_ {w2 : World} (h : NetOut w B g lp a mp N xs C w') (hb : Below w'.heap.size w' w2) : NetOut w B g lp a mp N xs C w2 := by
  obtain ⟨lp', a', c', mp', h1, h2, h3⟩ := h
  exact ⟨lp', a', c', mp', h1.old hb, h2.trans (Keeps.of_below hb (fun _ => False)) (fun _ _ h => h.elim), h3⟩
theorem NetOut.from_ {w0 : World} (hb : Below w0.heap.size w0 w) (h : NetOut w B g lp a mp N xs C w') : NetOut w0 B g lp a mp N xs C w' := by
  obtain ⟨lp', a', c', mp', h1, h2, h3⟩ := h
  exact ⟨lp', a', c', mp', h1, (Keeps.of_below hb (netF g lp a mp)).trans h2 (fun _ _ h => h), fun k hk => (h3 k hk).imp id (fun h => Nat.le_trans hb.size h)⟩
/-- Two calls that turn the net, one behind the other. -/
theorem NetOut.seq {xs2 : List Pk} {C2 : Int → Int → Bool} {w2 : World} (h : NetOut w B g lp a mp N xs C w')
    (k : ∀ lp' a' c' mp', NetAt w' B g lp' a' c' mp' N xs C → NetOut w' B g lp' a' mp' N xs2 C2 w2) : NetOut w B g lp a mp N xs2 C2 w2 := by
  obtain ⟨lp', a', c', mp', h1, h2, h3⟩ := h
  obtain ⟨l2, a2, c2, m2, k1, k2, k3⟩ := k lp' a' c' mp' h1
  exact ⟨l2, a2, c2, m2, k1, h2.then_ h3 k2, h3.trans h2.size k3⟩
theorem ring_of {r : Nat} (h : NetAt w B g (some r) a c mp N xs C) : RingAtN val 3 TR TP w B r 900 a c xs := by
  rcases h.ring with ⟨h0, _⟩ | ⟨r', h0, hr⟩
  · cases h0
  · injection h0 with h0; subst h0; exact hr
/-- A call of the ring, told of the net. -/
theorem NetAt.ringOut {r : Nat} {ys : List Pk} (h : NetAt w B g (some r) a c mp N xs C) (ho : RingOutN val 3 TR TP w B r 900 a ys w') : NetOut w B g (some r) a mp N ys C w' := by
  have hr := ring_of h
  obtain ⟨a', c', h1, h2, h3⟩ := ho
  have hgr : g ≠ r := h.blk.ne_ hr.blk (by decide)
  have hga : (Value.slice a 0 0).ownBlock ≠ some g := by have := own_ne hr.own h.blk (show TP ≠ TN by decide); rwa [own_blk] at this
  have hnot : ¬ ringF r a g := by rintro (h | h); exact hgr h; exact hga h
  refine ⟨some r, a', c', mp, ⟨h.blk.keeps h2 hnot, .inr ⟨r, rfl, h1⟩, h.cuts.keeps h2 (fun b hb hs => ?_), h.ge⟩, h2.mono (fun k _ hk => ?_), fun k hk => ?_⟩
  · rcases h.cuts with ⟨h0, _⟩ | ⟨b', n, h0, _, _, hc⟩
    · rw [h0] at hb; cases hb
    · rw [h0] at hb; injection hb with hb; subst hb
      obtain ⟨es, clock, hobj⟩ := CutsAt.obj hc
      rcases hs with rfl | hs
      · exact hc.blk hr.blk rfl
      · exact own_map hr.own hobj (by rw [own_blk]; exact hs)
  · rcases hk with rfl | hk
    · exact .inr (.inl rfl)
    · exact .inr (.inr (.inl hk))
  · rcases hk with rfl | hk | hk | hk
    · exact .inl (.inl rfl)
    · exact .inl (.inr (.inl hk))
    · rcases h3 k (.inr hk) with (rfl | h4) | h4
      · exact .inl (.inr (.inl rfl))
      · exact .inl (.inr (.inr (.inl h4)))
      · exact .inr h4
    · exact .inl (.inr (.inr (.inr hk)))
end
end Go.Proofs.Ytanhdcffbdhkcaa.NT
