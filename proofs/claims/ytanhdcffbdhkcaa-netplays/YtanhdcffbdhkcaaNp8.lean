/- NetPlays: plain: both nets hold the same. No condition. -/
import Derived.Test.YtanhdcffbdhkcaaNp7
import Derived.Test.YtanhdcffbdhkcaaNp5
import Derived.Test.YtanhdcffbdhkcaaNp4
namespace Go.Proofs.Ytanhdcffbdhkcaa.NP
set_option maxRecDepth 100000
set_option maxRecDepth 100000
open Go.RowKit Go.Proofs.Ytanhdcffbdhkcaa.RP Go.Proofs.Ytanhdcffbdhkcaa.CM Go.Proofs.Ytanhdcffbdhkcaa.NT
set_option linter.unusedVariables false
set_option linter.unusedSimpArgs false

/-- What is cut in the one is cut in the other. -/
def CutRel (C : Int → Int → Bool) (cs : List (Int × Int)) : Prop := ∀ x y, C (min x y) (max x y) = cs.any fun c => c.1 == min x y && c.2 == max x y
theorem rel_new : CutRel (fun _ _ => false) [] := fun x y => rfl
theorem same_pair (p q r s : Int) : (p == r && q == s) = (r == p && s == q) := by
  rw [Bool.eq_iff_iff]
  simp only [Bool.and_eq_true, beq_iff_eq]
  omega
theorem rest_any (p q r s : Int) (cs : List (Int × Int)) : (cs.filter fun c => !(c.1 == p && c.2 == q)).any (fun c => c.1 == r && c.2 == s) = (cs.any (fun c => c.1 == r && c.2 == s) && !(r == p && s == q)) := by
  induction cs with
  | nil => rfl
  | cons d l ih =>
    rw [List.filter_cons]
    cases hd : (d.1 == p && d.2 == q)
    · simp only [Bool.not_false, if_true, List.any_cons, ih]
      cases e : (d.1 == r && d.2 == s)
      · simp
      · have e2 : d.1 = r ∧ d.2 = s := by simpa using e
        rw [← e2.1, ← e2.2, hd]
        simp
    · have e2 : d.1 = p ∧ d.2 = q := by simpa using hd
      simp only [Bool.not_true, Bool.false_eq_true, if_false, List.any_cons, ih, e2.1, e2.2]
      rw [same_pair p q r s]
      cases (r == p && s == q) <;> simp
theorem rel_cut {C : Int → Int → Bool} {cs : List (Int × Int)} (h : CutRel C cs) (x y : Int) (on : Bool) : CutRel (cutC C x y on) (cutL cs x y on) := by
  intro a b
  have hr : (restC x y cs).any (fun c => c.1 == min a b && c.2 == max a b) = withOut C (min x y) (max x y) (min a b) (max a b) := by
    unfold withOut restC isP
    rw [rest_any, h a b]
  cases on
  · exact hr.symm
  · show withIn (withOut C (min x y) (max x y)) (min x y) (max x y) (min a b) (max a b) = (restC x y cs ++ [(min x y, max x y)]).any _
    unfold withIn
    rw [List.any_append, hr]
    simp only [List.any_cons, List.any_nil, Bool.or_false]
    rw [same_pair]
theorem one_same {C : Int → Int → Bool} {cs : List (Int × Int)} (h : CutRel C cs) (ys : List Pk) (p : Pk) : sendOne C ys p = rsendOne cs ys p := by
  unfold sendOne rsendOne cutB
  rw [h p.f p.t]
  cases cs.any fun c => c.1 == min p.f p.t && c.2 == max p.f p.t
  · by_cases h9 : ys.length < 900
    · have : ¬ 900 ≤ ys.length := by omega
      simp [h9, this]
    · have : 900 ≤ ys.length := by omega
      simp [h9, this]
  · simp
theorem send_same {C : Int → Int → Bool} {cs : List (Int × Int)} (h : CutRel C cs) (ps : List Pk) : ∀ ys, sendB C ys ps = rsendB cs ys ps := by
  induction ps with
  | nil => intro ys; rfl
  | cons p ps ih =>
    intro ys
    show sendB C (sendOne C ys p) ps = rsendB cs (rsendOne cs ys p) ps
    rw [one_same h]
    exact ih _
theorem take_len (xs : List Pk) (k : Int) : (takeB xs k).length ≤ xs.length := by
  unfold takeB
  split
  · rw [List.length_eraseIdx]; split <;> omega
  · exact Nat.le_refl _
theorem double_len (xs : List Pk) (k : Int) (h : xs.length ≤ 900) : (doubleB xs k).length ≤ 900 := by
  unfold doubleB
  split
  · rename_i hc
    unfold canD at hc
    have : xs.length < 900 := by simp at hc; exact hc.2
    simp; omega
  · exact h
theorem swap_len (xs : List Pk) (k j : Int) : (swapB xs k j).length = xs.length := by
  unfold swapB
  split <;> simp
theorem cutL_len (cs : List (Int × Int)) (x y : Int) (on : Bool) : (cutL cs x y on).length ≤ cs.length + 1 := by
  have := restC_len x y cs
  unfold cutL
  split
  · simp; omega
  · omega
theorem sameB_self (p : Pk) : sameB p p = true := by unfold sameB; simp
end Go.Proofs.Ytanhdcffbdhkcaa.NP
