/- NetPlays: the net, and the document's own one beside it. No condition. -/
import Derived.Test.YtanhdcffbdhkcaaNet9
namespace Go.Proofs.Ytanhdcffbdhkcaa.NP
set_option maxRecDepth 100000
open Go.RowKit Go.Proofs.Ytanhdcffbdhkcaa.RP Go.Proofs.Ytanhdcffbdhkcaa.CM Go.Proofs.Ytanhdcffbdhkcaa.NT
set_option linter.unusedVariables false
set_option linter.unusedSimpArgs false

def refF (r : Nat) (a ka : Option Addr) : Nat → Prop := fun k => k = r ∨ (Value.slice a 0 0).ownBlock = some k ∨ (Value.slice ka 0 0).ownBlock = some k
/-- What a call of the reference leaves: its block alone was turned; its rows are the old ones or new. -/
def RefOut (w : World) (B r : Nat) (a ka : Option Addr) (xs : List Pk) (cs : List (Int × Int)) (w' : World) : Prop :=
  ∃ a' c' ka' kc', RefAt w' B r a' c' ka' kc' xs cs ∧ Keeps (fun k => k = r) w w' ∧ Grows w (refF r a ka) (refF r a' ka')
section
variable {w w' w1 : World} {B r c kc : Nat} {a ka : Option Addr} {xs ys : List Pk} {cs ds : List (Int × Int)}
theorem RefAt.lt (h : RefAt w B r a c ka kc xs cs) : ∀ k, refF r a ka k → k < w.heap.size := by
  intro k hk
  rcases hk with rfl | hk | hk
  · exact h.blk.lt
  · exact (h.row.lt k (by rw [own_blk]; exact hk)).2
  · exact (h.cut.lt k (by rw [own_blk]; exact hk)).2
theorem RefAt.geF (h : RefAt w B r a c ka kc xs cs) : ∀ k, refF r a ka k → B ≤ k := by
  intro k hk
  rcases hk with rfl | hk | hk
  · exact h.ge
  · exact (h.row.lt k (by rw [own_blk]; exact hk)).1
  · exact (h.cut.lt k (by rw [own_blk]; exact hk)).1
theorem RefAt.base (h : RefAt w B r a c ka kc xs cs) : B ≤ w.heap.size := by have := h.ge; have := h.blk.lt; omega
theorem RefAt.keeps {S : Nat → Prop} (h : RefAt w B r a c ka kc xs cs) (hk : Keeps S w w') (hn : Apart (refF r a ka) S) : RefAt w' B r a c ka kc xs cs :=
  ⟨h.blk.keeps hk (fun hs => hn r (.inl rfl) hs), own_keeps h.row hk (fun k hk' hs => hn k (.inr (.inl (by rw [own_blk] at hk'; exact hk'))) hs), own_keeps h.cut hk (fun k hk' hs => hn k (.inr (.inr (by rw [own_blk] at hk'; exact hk'))) hs), h.ge⟩
theorem RefAt.old (h : RefAt w B r a c ka kc xs cs) (hb : Below w.heap.size w w') : RefAt w' B r a c ka kc xs cs := h.keeps (Keeps.of_below hb (fun _ => False)) (fun _ _ h => h)
theorem RefAt.out (h : RefAt w B r a c ka kc xs cs) : RefOut w B r a ka xs cs w := ⟨a, c, ka, kc, h, Keeps.refl _ _, Grows.refl _ _⟩
/-- The datagrams are laid in a new row. -/
theorem RefAt.putL (h : RefAt w B r a c ka kc xs cs) (hb : Below w.heap.size w w1) {a' : Option Addr} {n c' : Nat} (hown : w1.ownsRow w.heap.size RK 3 (.slice a' n c') n (ys.flatMap val)) (hn : n = ys.length) :
    RefOut w B r a ka ys cs (w1.setCell ⟨r, 0, none⟩ (.slice a' n c')) := by
  subst hn
  have hlt := h.blk.lt
  have hnew : ∀ k, (Value.slice a' 0 0).ownBlock = some k → w.heap.size ≤ k := fun k hk => (hown.lt k (by rw [own_blk]; exact hk)).1
  have hnc : ∀ k, (Value.slice ka 0 0).ownBlock = some k → k ≠ r := fun k hk e => by
    have h1 := own_ne h.cut h.blk (show (63 : Nat) ≠ RT by decide)
    rw [own_blk] at h1
    exact h1 (e ▸ hk)
  have hk1 : Keeps (fun k => k = r) w1 (w1.setCell ⟨r, 0, none⟩ (.slice a' ys.length c')) := Keeps.setCell (S := fun k => k = r) (p := ⟨r, _, none⟩) (Keeps.refl _ _) (fun _ => rfl) _
  refine ⟨a', c', ka, kc, ⟨(h.blk.below hb hlt).set_ 0 _, ?_, ?_, h.ge⟩, ?_, ?_⟩
  · exact own_base (own_keeps hown hk1 (fun k hk e => by have h1 := hnew k (by rw [own_blk] at hk; exact hk); have e' : k = r := e; omega)) (fun k hk => by have h1 := hnew k (by rw [own_blk] at hk; exact hk); have := h.base; omega)
  · exact own_keeps (own_keeps h.cut (Keeps.of_below hb (fun _ => False)) (fun _ _ h => h)) hk1 (fun k hk e => hnc k (by rw [own_blk] at hk; exact hk) e)
  · exact (Keeps.of_below hb (fun k => k = r)).setCell (fun _ => rfl) _
  · intro k hk
    rcases hk with hk | hk | hk
    · exact .inl (.inl hk)
    · exact .inr (hnew k hk)
    · exact .inl (.inr (.inr hk))
/-- What is cut is laid in a new row. -/
theorem RefAt.putC (h : RefAt w B r a c ka kc xs cs) (hb : Below w.heap.size w w1) {a' : Option Addr} {n c' : Nat} (hown : w1.ownsRow w.heap.size 63 2 (.slice a' n c') n (ds.flatMap val2)) (hn : n = ds.length) :
    RefOut w B r a ka xs ds (w1.setCell ⟨r, 1, none⟩ (.slice a' n c')) := by
  subst hn
  have hlt := h.blk.lt
  have hnew : ∀ k, (Value.slice a' 0 0).ownBlock = some k → w.heap.size ≤ k := fun k hk => (hown.lt k (by rw [own_blk]; exact hk)).1
  have hnc : ∀ k, (Value.slice a 0 0).ownBlock = some k → k ≠ r := fun k hk e => by
    have h1 := own_ne h.row h.blk (show (RK : Nat) ≠ RT by decide)
    rw [own_blk] at h1
    exact h1 (e ▸ hk)
  have hk1 : Keeps (fun k => k = r) w1 (w1.setCell ⟨r, 1, none⟩ (.slice a' ds.length c')) := Keeps.setCell (S := fun k => k = r) (p := ⟨r, _, none⟩) (Keeps.refl _ _) (fun _ => rfl) _
  refine ⟨a, c, a', c', ⟨(h.blk.below hb hlt).set_ 1 _, ?_, ?_, h.ge⟩, ?_, ?_⟩
  · exact own_keeps (own_keeps h.row (Keeps.of_below hb (fun _ => False)) (fun _ _ h => h)) hk1 (fun k hk e => hnc k (by rw [own_blk] at hk; exact hk) e)
  · exact own_base (own_keeps hown hk1 (fun k hk e => by have h1 := hnew k (by rw [own_blk] at hk; exact hk); have e' : k = r := e; omega)) (fun k hk => by have h1 := hnew k (by rw [own_blk] at hk; exact hk); have := h.base; omega)
  · exact (Keeps.of_below hb (fun k => k = r)).setCell (fun _ => rfl) _
  · intro k hk
    rcases hk with hk | hk | hk
    · exact .inl (.inl hk)
    · exact .inl (.inr (.inl hk))
    · exact .inr (hnew k hk)
/-- All is lost. -/
theorem RefAt.clear (h : RefAt w B r a c ka kc xs cs) : RefOut w B r a ka [] cs (w.setCell ⟨r, 0, none⟩ (.slice none 0 0)) :=
  h.putL (ys := []) (belowSame w) (World.ownsRow_nil _ _ _ _) rfl
end
/-- Both nets, made since w0, and blocks beside them. -/
def PlayAt (w0 : World) (g r N : Nat) (xs : List Pk) (C : Int → Int → Bool) (ys : List Pk) (cs : List (Int × Int)) (bl : List (Nat × TypeId × Array Value)) (W : World) : Prop :=
  ∃ lp a c mp aL cL aC cC, NetAt W w0.heap.size g lp a c mp N xs C ∧ RefAt W w0.heap.size r aL cL aC cC ys cs ∧ Below w0.heap.size w0 W ∧ Apart (netF g lp a mp) (refF r aL aC) ∧ ∀ b ∈ bl, Blk W b.1 b.2.1 b.2.2 ∧ ¬ netF g lp a mp b.1 ∧ ¬ refF r aL aC b.1
section
variable {w0 W W' : World} {g r N N' : Nat} {xs xs' ys ys' : List Pk} {C C' : Int → Int → Bool} {cs cs' : List (Int × Int)} {bl bl' : List (Nat × TypeId × Array Value)} {P : Ending → Prop} {f : Nat} {args : Array Value}
theorem PlayAt.bel (h : PlayAt w0 g r N xs C ys cs bl W) : Below w0.heap.size w0 W := by obtain ⟨_, _, _, _, _, _, _, _, _, _, hb, _⟩ := h; exact hb
theorem PlayAt.side (h : PlayAt w0 g r N xs C ys cs bl W) {b : Nat × TypeId × Array Value} (hb : b ∈ bl) : Blk W b.1 b.2.1 b.2.2 := by obtain ⟨_, _, _, _, _, _, _, _, _, _, _, _, h5⟩ := h; exact (h5 b hb).1
theorem PlayAt.b0 {x : Nat} {T : TypeId} {vs : Array Value} (h : PlayAt w0 g r N xs C ys cs ((x, T, vs) :: bl) W) : Blk W x T vs := h.side (b := (x, T, vs)) (List.mem_cons_self ..)
theorem PlayAt.less (h : PlayAt w0 g r N xs C ys cs bl W) (hs : ∀ b ∈ bl', b ∈ bl) : PlayAt w0 g r N xs C ys cs bl' W := by
  obtain ⟨lp, a, c, mp, aL, cL, aC, cC, h1, h2, h3, h4, h5⟩ := h
  exact ⟨lp, a, c, mp, aL, cL, aC, cC, h1, h2, h3, h4, fun b hb => h5 b (hs b hb)⟩
theorem PlayAt.pop {y : Nat × TypeId × Array Value} (h : PlayAt w0 g r N xs C ys cs (y :: bl) W) : PlayAt w0 g r N xs C ys cs bl W := h.less fun b hb => List.mem_cons_of_mem _ hb
theorem PlayAt.then_ (h : PlayAt w0 g r N xs C ys cs bl W) (hb : Below W.heap.size W W') : PlayAt w0 g r N xs C ys cs bl W' := by
  obtain ⟨lp, a, c, mp, aL, cL, aC, cC, h1, h2, h3, h4, h5⟩ := h
  exact ⟨lp, a, c, mp, aL, cL, aC, cC, h1.old hb, h2.old hb, belowThen h3 hb, h4, fun b hbl => ⟨(h5 b hbl).1.below hb (h5 b hbl).1.lt, (h5 b hbl).2⟩⟩
theorem PlayAt.alloc (h : PlayAt w0 g r N xs C ys cs bl W) (o : Obj) : PlayAt w0 g r N xs C ys cs bl (W.alloc o) := h.then_ (belowNew (belowSame _) o)
theorem PlayAt.drew (h : PlayAt w0 g r N xs C ys cs bl W) : PlayAt w0 g r N xs C ys cs bl W.drew := h.then_ (belowDrew (belowSame _))
theorem PlayAt.drewN (h : PlayAt w0 g r N xs C ys cs bl W) (n : Nat) : PlayAt w0 g r N xs C ys cs bl (W.drewN n) := h.then_ (belowDrewN (belowSame _) n)
/-- A block made behind stands beside. -/
theorem PlayAt.side_new (h : PlayAt w0 g r N xs C ys cs bl W) (hb : Below W.heap.size W W') {x : Nat} {T : TypeId} {vs : Array Value} (hx : Blk W' x T vs) (hge : W.heap.size ≤ x) : PlayAt w0 g r N xs C ys cs ((x, T, vs) :: bl) W' := by
  obtain ⟨lp, a, c, mp, aL, cL, aC, cC, h1, h2, h3, h4, h5⟩ := h
  refine ⟨lp, a, c, mp, aL, cL, aC, cC, h1.old hb, h2.old hb, belowThen h3 hb, h4, fun b hbl => ?_⟩
  rcases List.mem_cons.1 hbl with e | hbl
  · subst e
    exact ⟨hx, fun hk => by have h6 := h1.lt _ hk; exact absurd hge (by simp only at h6 ⊢; omega), fun hk => by have h6 := h2.lt _ hk; exact absurd hge (by simp only at h6 ⊢; omega)⟩
  · exact ⟨(h5 b hbl).1.below hb (h5 b hbl).1.lt, (h5 b hbl).2⟩
/-- From a call of the net. -/
theorem PlayAt.net (h : PlayAt w0 g r N xs C ys cs bl W) (hc : ∀ {lp mp : Option Nat} {a : Option Addr} {c : Nat}, NetAt W w0.heap.size g lp a c mp N xs C → (∀ b ∈ bl, ¬ netF g lp a mp b.1) → Calls Try.prog f args W fun e w' => P e ∧ NetOut W w0.heap.size g lp a mp N' xs' C' w') :
    Calls Try.prog f args W fun e w' => P e ∧ PlayAt w0 g r N' xs' C' ys cs bl w' := by
  obtain ⟨lp, a, c, mp, aL, cL, aC, cC, h1, h2, h3, h4, h5⟩ := h
  refine (hc h1 (fun b hb => (h5 b hb).2.1)).mono ?_
  rintro e w' ⟨hP, lp', a', c', mp', k1, k2, k3⟩
  refine ⟨hP, lp', a', c', mp', aL, cL, aC, cC, k1, h2.keeps k2 h4.symm, k2.after h3 h1.geF h1.base, k3.apart h4 h2.lt, fun b hb => ⟨(h5 b hb).1.keeps k2 (h5 b hb).2.1, fun hk => ?_, (h5 b hb).2.2⟩⟩
  rcases k3 b.1 hk with h6 | h6
  · exact (h5 b hb).2.1 h6
  · have := (h5 b hb).1.lt; omega
theorem PlayAt.rout {aL aC : Option Addr} {lp mp : Option Nat} {a : Option Addr} {c cL cC : Nat} (h1 : NetAt W w0.heap.size g lp a c mp N xs C) (h2 : RefAt W w0.heap.size r aL cL aC cC ys cs) (h3 : Below w0.heap.size w0 W) (h4 : Apart (netF g lp a mp) (refF r aL aC)) (h5 : ∀ b ∈ bl, Blk W b.1 b.2.1 b.2.2 ∧ ¬ netF g lp a mp b.1 ∧ ¬ refF r aL aC b.1) (ho : RefOut W w0.heap.size r aL aC ys' cs' W') : PlayAt w0 g r N xs C ys' cs' bl W' := by
  obtain ⟨a', c', ka', kc', k1, k2, k3⟩ := ho
  have hr : ∀ k, netF g lp a mp k → ¬ k = r := fun k hk e => h4 k hk (.inl e)
  refine ⟨lp, a, c, mp, a', c', ka', kc', h1.keeps k2 (fun k hk e => hr k hk e), k1, k2.after h3 (fun k e => e ▸ h2.ge) h2.base, (k3.apart h4.symm h1.lt).symm, fun b hb => ⟨(h5 b hb).1.keeps k2 (fun e => (h5 b hb).2.2 (.inl e)), (h5 b hb).2.1, fun hk => ?_⟩⟩
  rcases k3 b.1 hk with h6 | h6
  · exact (h5 b hb).2.2 h6
  · have := (h5 b hb).1.lt; omega
/-- From a call of the reference. -/
theorem PlayAt.ref (h : PlayAt w0 g r N xs C ys cs bl W) (hc : ∀ {aL aC : Option Addr} {cL cC : Nat}, RefAt W w0.heap.size r aL cL aC cC ys cs → Calls Try.prog f args W fun e w' => P e ∧ RefOut W w0.heap.size r aL aC ys' cs' w') :
    Calls Try.prog f args W fun e w' => P e ∧ PlayAt w0 g r N xs C ys' cs' bl w' := by
  obtain ⟨lp, a, c, mp, aL, cL, aC, cC, h1, h2, h3, h4, h5⟩ := h
  refine (hc h2).mono ?_
  rintro e w' ⟨hP, ho⟩
  exact ⟨hP, PlayAt.rout h1 h2 h3 h4 h5 ho⟩
theorem PlayAt.refs (h : PlayAt w0 g r N xs C ys cs bl W) : ∃ aL cL aC cC, RefAt W w0.heap.size r aL cL aC cC ys cs := by
  obtain ⟨lp, a, c, mp, aL, cL, aC, cC, h1, h2, _⟩ := h
  exact ⟨aL, cL, aC, cC, h2⟩
end
end Go.Proofs.Ytanhdcffbdhkcaa.NP
