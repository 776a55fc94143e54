/- NetPlays: both nets beside each other, the reference's rows known by their place. No condition. -/
import Derived.Test.YtanhdcffbdhkcaaNp10
import Derived.Test.YtanhdcffbdhkcaaHeldMore
import Derived.Laws.StructEq
namespace Go.Proofs.Ytanhdcffbdhkcaa.NP
set_option maxRecDepth 100000
set_option maxRecDepth 100000
open Go.RowKit Go.Proofs.Ytanhdcffbdhkcaa.RP Go.Proofs.Ytanhdcffbdhkcaa.CM Go.Proofs.Ytanhdcffbdhkcaa.NT
set_option linter.unusedVariables false
set_option linter.unusedSimpArgs false

/-- As PlayAt, but that the reference's rows are named. -/
def FixAt (w0 : World) (g r N : Nat) (xs : List Pk) (C : Int → Int → Bool) (ys : List Pk) (cs : List (Int × Int)) (bl : List (Nat × TypeId × Array Value)) (aL : Option Addr) (cL : Nat) (aC : Option Addr) (cC : Nat) (W : World) : Prop :=
  ∃ lp a c mp, NetAt W w0.heap.size g lp a c mp N xs C ∧ RefAt W w0.heap.size r aL cL aC cC ys cs ∧ Below w0.heap.size w0 W ∧ Apart (netF g lp a mp) (refF r aL aC) ∧ ∀ b ∈ bl, Blk W b.1 b.2.1 b.2.2 ∧ ¬ netF g lp a mp b.1 ∧ ¬ refF r aL aC b.1
section
variable {w0 W W' : World} {g r N N' : Nat} {xs xs' ys ys' : List Pk} {C C' : Int → Int → Bool} {cs cs' : List (Int × Int)} {bl bl' : List (Nat × TypeId × Array Value)} {P : Ending → Prop} {f : Nat} {args : Array Value} {aL aC : Option Addr} {cL cC : Nat}
theorem PlayAt.fix (h : PlayAt w0 g r N xs C ys cs bl W) : ∃ aL cL aC cC, FixAt w0 g r N xs C ys cs bl aL cL aC cC W := by
  obtain ⟨lp, a, c, mp, aL, cL, aC, cC, h⟩ := h
  exact ⟨aL, cL, aC, cC, lp, a, c, mp, h⟩
theorem FixAt.play (h : FixAt w0 g r N xs C ys cs bl aL cL aC cC W) : PlayAt w0 g r N xs C ys cs bl W := by
  obtain ⟨lp, a, c, mp, h⟩ := h
  exact ⟨lp, a, c, mp, aL, cL, aC, cC, h⟩
theorem FixAt.then_ (h : FixAt w0 g r N xs C ys cs bl aL cL aC cC W) (hb : Below W.heap.size W W') : FixAt w0 g r N xs C ys cs bl aL cL aC cC W' := by
  obtain ⟨lp, a, c, mp, h1, h2, h3, h4, h5⟩ := h
  exact ⟨lp, a, c, mp, h1.old hb, h2.old hb, belowThen h3 hb, h4, fun b hbl => ⟨(h5 b hbl).1.below hb (h5 b hbl).1.lt, (h5 b hbl).2⟩⟩
theorem FixAt.drew (h : FixAt w0 g r N xs C ys cs bl aL cL aC cC W) : FixAt w0 g r N xs C ys cs bl aL cL aC cC W.drew := h.then_ (belowDrew (belowSame _))
theorem FixAt.net (h : FixAt w0 g r N xs C ys cs bl aL cL aC cC W) (hc : ∀ {lp mp : Option Nat} {a : Option Addr} {c : Nat}, NetAt W w0.heap.size g lp a c mp N xs C → (∀ b ∈ bl, ¬ netF g lp a mp b.1) → Calls Try.prog f args W fun e w' => P e ∧ NetOut W w0.heap.size g lp a mp N' xs' C' w') :
    Calls Try.prog f args W fun e w' => P e ∧ FixAt w0 g r N' xs' C' ys cs bl aL cL aC cC w' := by
  obtain ⟨lp, a, c, mp, h1, h2, h3, h4, h5⟩ := h
  refine (hc h1 (fun b hb => (h5 b hb).2.1)).mono ?_
  rintro e w' ⟨hP, lp', a', c', mp', k1, k2, k3⟩
  refine ⟨hP, lp', a', c', mp', k1, h2.keeps k2 h4.symm, k2.after h3 h1.geF h1.base, k3.apart h4 h2.lt, fun b hb => ⟨(h5 b hb).1.keeps k2 (h5 b hb).2.1, fun hk => ?_, (h5 b hb).2.2⟩⟩
  rcases k3 b.1 hk with h6 | h6
  · exact (h5 b hb).2.1 h6
  · have := (h5 b hb).1.lt; omega
theorem FixAt.len (h : FixAt w0 g r N xs C ys cs bl aL cL aC cC W) : Calls Try.prog 14 #[.pointer (some ⟨g, 0, none⟩)] W fun e w' => e = .returned (.int .i64 (xs.length : Int)) ∧ FixAt w0 g r N xs C ys cs bl aL cL aC cC w' :=
  h.net (P := fun e => e = .returned (.int .i64 (xs.length : Int))) fun h1 _ => (len_net h1).mono fun _ _ ⟨a, b⟩ => ⟨a, b.out⟩
theorem FixAt.there (h : FixAt w0 g r N xs C ys cs bl aL cL aC cC W) (k : Int) : Calls Try.prog 28 #[.pointer (some ⟨r, 0, none⟩), .int .i64 k] W fun e w' => e = .returned (.bool (inB ys k)) ∧ W = w' := by
  obtain ⟨lp, a, c, mp, h1, h2, _⟩ := h
  exact there_any h2 k
theorem FixAt.cell (h : FixAt w0 g r N xs C ys cs bl aL cL aC cC W) : W.cell? ⟨r, 0, none⟩ = some (.slice aL ys.length cL) := by
  obtain ⟨lp, a, c, mp, h1, h2, _⟩ := h
  exact h2.blk.cell 0
theorem FixAt.caps (h : FixAt w0 g r N xs C ys cs bl aL cL aC cC W) : ys.length ≤ cL ∧ cL ≤ maxLen := by
  obtain ⟨lp, a, c, mp, h1, h2, _⟩ := h
  rcases h2.row.2 with ⟨e, h0⟩ | ⟨g', cap, cur, e, _, _, k1, k2, _⟩
  · injection e with e1 e2 e3; subst e3; unfold maxLen; omega
  · injection e with e1 e2 e3; subst e3; exact ⟨k1, k2⟩
theorem FixAt.place (h : FixAt w0 g r N xs C ys cs bl aL cL aC cC W) (hk : 0 < ys.length) : ∃ b, aL = some ⟨b, 0, none⟩ := by
  obtain ⟨lp, a, c, mp, h1, h2, _⟩ := h
  rcases h2.row.2 with ⟨e, h0⟩ | ⟨g', cap, cur, e, _⟩
  · injection e with e1 e2 e3; omega
  · injection e with e1 e2 e3; exact ⟨g', e1⟩
theorem FixAt.cells {b : Nat} (h : FixAt w0 g r N xs C ys cs bl (some ⟨b, 0, none⟩) cL aC cC W) {k : Nat} {p : Pk} (hk : ys[k]? = some p) : W.cell? ⟨b, k * 3, none⟩ = some (.int .i64 p.f) ∧ W.cell? ⟨b, k * 3 + 1, none⟩ = some (.int .i64 p.t) ∧ W.cell? ⟨b, k * 3 + 2, none⟩ = some (.string p.d) := by
  obtain ⟨lp, a, c, mp, h1, h2, _⟩ := h
  have hkl : k < ys.length := by
    rcases Nat.lt_or_ge k ys.length with h | h
    · exact h
    · rw [List.getElem?_eq_none h] at hk; cases hk
  obtain ⟨ad, e, hc⟩ := (Lies.of_own h2.row).2 (by omega)
  injection e with e
  subst e
  have at_ : ∀ j u, (val p)[j]? = some u → (ys.flatMap val)[k * 3 + j]? = some u := fun j u hu => by
    have hp : ys[k] = p := by rw [List.getElem?_eq_getElem hkl] at hk; injection hk
    have hj : j < 3 := by
      rcases Nat.lt_or_ge j 3 with h | h
      · exact h
      · rw [List.getElem?_eq_none h] at hu; cases hu
    rw [flat_at val_len ys k j hkl hj, hp]
    exact hu
  have c0 := hc _ _ (at_ 0 _ rfl)
  have c1 := hc _ _ (at_ 1 _ rfl)
  have c2 := hc _ _ (at_ 2 _ rfl)
  rw [Go.WideShapes.add_plain] at c0 c1 c2
  simp only [Nat.zero_add, Nat.add_zero] at c0 c1 c2
  exact ⟨c0, c1, c2⟩
theorem FixAt.side (h : FixAt w0 g r N xs C ys cs bl aL cL aC cC W) {b : Nat × TypeId × Array Value} (hb : b ∈ bl) : Blk W b.1 b.2.1 b.2.2 := by obtain ⟨_, _, _, _, _, _, _, _, h5⟩ := h; exact (h5 b hb).1
theorem FixAt.b0 {x : Nat} {T : TypeId} {vs : Array Value} (h : FixAt w0 g r N xs C ys cs ((x, T, vs) :: bl) aL cL aC cC W) : Blk W x T vs := h.side (b := (x, T, vs)) (List.mem_cons_self ..)
theorem FixAt.b1 {x : Nat} {T : TypeId} {vs : Array Value} {y : Nat × TypeId × Array Value} (h : FixAt w0 g r N xs C ys cs (y :: (x, T, vs) :: bl) aL cL aC cC W) : Blk W x T vs := h.side (b := (x, T, vs)) (by simp)
end
theorem PlayAt.b1 {w0 W : World} {g r N : Nat} {xs ys : List Pk} {C : Int → Int → Bool} {cs : List (Int × Int)} {bl : List (Nat × TypeId × Array Value)} {x : Nat} {T : TypeId} {vs : Array Value} {y : Nat × TypeId × Array Value} (h : PlayAt w0 g r N xs C ys cs (y :: (x, T, vs) :: bl) W) : Blk W x T vs := h.side (b := (x, T, vs)) (by simp)
theorem in_nat {xs : List Pk} {k : Int} (h : inB xs k = true) : ∃ j : Nat, k = (j : Int) ∧ j < xs.length := by
  unfold inB at h
  have h := of_decide_eq_true h
  exact ⟨k.toNat, by omega, by omega⟩
theorem in_get {xs : List Pk} {j : Nat} (h : j < xs.length) : ∃ p, xs[j]? = some p ∧ getB xs (j : Int) = p ∧ inB xs (j : Int) = true := by
  have hi : inB xs (j : Int) = true := by unfold inB; simp; omega
  refine ⟨xs[j], List.getElem?_eq_getElem h, ?_, hi⟩
  unfold getB
  rw [if_pos hi]
  simp [List.getD_eq_getElem?_getD, h]
theorem out_get {xs : List Pk} {k : Int} (h : inB xs k = false) : getB xs k = pk0 := by
  unfold getB
  rw [if_neg (by rw [h]; decide)]
theorem send_len2 {C : Int → Int → Bool} {cs : List (Int × Int)} (h : CutRel C cs) (ps xs : List Pk) (hx : xs.length ≤ 900) : (sendB C xs ps).length ≤ 900 := by
  rw [send_same h]
  have := (rsend_len cs ps xs).1
  omega
theorem len_le {xs : List Pk} {ps : List Pk} {cs : List (Int × Int)} {C : Int → Int → Bool} (h : CutRel C cs) : xs.length ≤ (sendB C xs ps).length := by
  rw [send_same h]
  exact (rsend_len cs ps xs).2
/-- Behind the switch. -/
def Mid (w : World) (g r k y8 : Nat) (vs : Array Value) (W : World) : Prop := ∃ N xs C cs, N ≤ k + 1 ∧ xs.length ≤ 900 ∧ cs.length ≤ k + 1 ∧ CutRel C cs ∧ PlayAt w g r N xs C xs cs [(y8, 49, vs)] W
end Go.Proofs.Ytanhdcffbdhkcaa.NP
