/- Words for the walks of the laws of sum. No condition. -/
import Derived.Test.YtooapgeokonlhaaSumAlive
import Derived.Test.YtooapgeokonlhaaRegInv
namespace Go.Proofs.Ytooapgeokonlhaa
open Go.RowKit
set_option linter.unusedVariables false

namespace SM
def txtOf : Value → ByteArray
  | .string s => s
  | _ => ByteArray.empty
/-- The sum of texts that stand in cells. -/
def sumC (cs : List Value) : Int := sumL (allB (cs.map txtOf))
def Txts (cs : List Value) : Prop := ∀ v ∈ cs, ∃ s : ByteArray, v = .string s ∧ s.size ≤ 1000000
theorem of_c {A : Option Addr} {n c : Nat} {cs : List Value} {W : World} (h : Lies W 1 A n cs) (ht : Txts cs) (hn : n ≤ 1000) :
    Calls Try.prog 16 #[.slice A n c] W fun e w' => e = .returned (.int .u32 (sumC cs)) ∧ W = w' := by
  have e : (cs.map txtOf).map Value.string = cs := by
    rw [List.map_map]
    conv => rhs; rw [← List.map_id cs]
    exact List.map_congr_left fun v hv => by obtain ⟨s, rfl, _⟩ := ht v hv; rfl
  refine of_any A n c (cs.map txtOf) W (by rw [e]; exact h) (by unfold maxLen; omega) (fun s hs => ?_)
  obtain ⟨v, hv, rfl⟩ := List.mem_map.1 hs
  obtain ⟨s, rfl, hz⟩ := ht v hv
  unfold maxLen txtOf
  dsimp only
  omega
theorem of_v {v : Int} {cs : Array Value} {W : World} {g : Nat} (hv : sumC cs.toList = v) (ht : Txts cs.toList) (hn : cs.size ≤ 1000) (b : Blk W g 9 cs) :
    Calls Try.prog 16 #[.slice (some ⟨g, 0, none⟩) cs.size cs.size] W fun e w' => e = .returned (.int .u32 v) ∧ W = w' := by
  subst hv
  exact of_c (Lies.of_blk b) ht hn
theorem Txts.nil : Txts [] := fun v h => by cases h
theorem Txts.cons {s : ByteArray} {l : List Value} (h : s.size ≤ 1000000) (t : Txts l) : Txts (.string s :: l) := fun v hv => by
  rcases List.mem_cons.1 hv with rfl | hv
  · exact ⟨s, rfl, h⟩
  · exact t v hv
end SM
end Go.Proofs.Ytooapgeokonlhaa
