/- What was sealed, or stamped, and then turned in one byte does not fit. Plain laws. No condition. -/
import Derived.Test.YtacogpogplionaaSumAlive
import Derived.Test.YtacogpogplionaaCrcInj
import Derived.WideShapes
namespace Go.Proofs.Ytacogpogplionaa.SM
set_option maxRecDepth 100000
open Go.RowKit
set_option linter.unusedVariables false

theorem fourT_data (v : Int) : (WI.fourT v).data.toList = (WI.lowB v 4).map fun n => UInt8.ofNat n.toNat := rfl
theorem fourT_inj {u v : Int} (hu : 0 ≤ u ∧ u ≤ 4294967295) (hv : 0 ≤ v ∧ v ≤ 4294967295) (h : (WI.fourT u).data.toList = (WI.fourT v).data.toList) : u = v := by
  rw [fourT_data, fourT_data] at h
  have byte : ∀ {a b : Int}, 0 ≤ a → a < 256 → 0 ≤ b → b < 256 → UInt8.ofNat a.toNat = UInt8.ofNat b.toNat → a = b := by
    intro a b h1 h2 h3 h4 he
    have := congrArg UInt8.toNat he
    simp at this
    omega
  simp only [WI.lowB, List.map_cons, List.map_nil, List.cons.injEq, and_true] at h
  obtain ⟨h0, h1, h2, h3⟩ := h
  have k0 := byte (by omega) (by omega) (by omega) (by omega) h0
  have k1 := byte (by omega) (by omega) (by omega) (by omega) h1
  have k2 := byte (by omega) (by omega) (by omega) (by omega) h2
  have k3 := byte (by omega) (by omega) (by omega) (by omega) h3
  omega
theorem fourT_len (v : Int) : (WI.fourT v).data.toList.length = 4 := by rw [fourT_data]; simp [WI.lowB]
theorem toList_ne {a b : ByteArray} (h : a.data.toList ≠ b.data.toList) : (a.toList == b.toList) = false := by
  rw [ByteArray.toList_eq, ByteArray.toList_eq]
  exact beq_eq_false_iff_ne.2 h
def setT (b : ByteArray) (p : Nat) (d : UInt8) : ByteArray := ⟨(b.data.toList.set p d).toArray⟩
theorem setT_data (b : ByteArray) (p : Nat) (d : UInt8) : (setT b p d).data.toList = b.data.toList.set p d := rfl
theorem setT_size (b : ByteArray) (p : Nat) (d : UInt8) : (setT b p d).size = b.size := by
  show (setT b p d).data.size = b.data.size
  rw [← Array.length_toList, setT_data, List.length_set, Array.length_toList]
theorem app_data (a b : ByteArray) : (a ++ b).data.toList = a.data.toList ++ b.data.toList := by simp
theorem ext_data (b : ByteArray) (i j : Nat) : (b.extract i j).data.toList = (b.data.toList.drop i).take (j - i) := by simp
theorem ne_set {l : List UInt8} {p : Nat} (hp : p < l.length) {d : UInt8} (hd : l[p]? ≠ some d) : l.set p d ≠ l := by
  intro h
  apply hd
  rw [← h, List.getElem?_set_self hp]

theorem fits_set (s : ByteArray) (p : Nat) (hp : p < s.size + 4) (d : UInt8) (hd : (sealT s).data.toList[p]? ≠ some d) : fits (setT (sealT s) p d) = false := by
  have hz := (open_seal s).2.1
  have hl : (sealT s).data.toList = (WI.fourT (sumT s)).data.toList ++ s.data.toList := app_data _ _
  have h4 := fourT_len (sumT s)
  unfold fits
  apply toList_ne
  unfold headT tailT
  rw [setT_size, hz, ext_data, setT_data, hl]
  show _ ≠ (WI.fourT (sumL ((setT (sealT s) p d).extract 4 (s.size + 4)).data.toList)).data.toList
  rw [ext_data, setT_data, hl]
  rw [hl] at hd
  by_cases hlt : p < 4
  · rw [List.set_append_left _ _ (by omega)]
    rw [show s.size + 4 - 4 = s.size by omega, List.drop_zero, show 4 - 0 = 4 from rfl, List.take_append_of_le_length (by simp [h4]), List.take_of_length_le (by simp [h4])]
    rw [List.drop_append_of_le_length (by simp [h4]), List.drop_of_length_le (by simp [h4]), List.nil_append, List.take_of_length_le (by simp)]
    rw [List.getElem?_append_left (by omega)] at hd
    exact ne_set (by omega) hd
  · rw [List.set_append_right _ _ (by omega), h4]
    rw [show s.size + 4 - 4 = s.size by omega, List.drop_zero, show 4 - 0 = 4 from rfl, List.take_append_of_le_length (by omega), List.take_of_length_le (by omega)]
    rw [List.drop_append_of_le_length (by omega), List.drop_of_length_le (by omega), List.nil_append, List.take_of_length_le (by simp)]
    rw [List.getElem?_append_right (by omega), h4] at hd
    intro h
    have := fourT_inj (sumL_b _) (sumL_b _) h
    have hpl : p - 4 < s.data.toList.length := by simp; omega
    refine sumL_set s.data.toList (p - 4) hpl d (fun e => hd ?_) this.symm
    rw [List.getElem?_eq_getElem hpl, e]
theorem fitsR_set (s : ByteArray) (n : Nat) (h1 : 4 ≤ n) (h3 : s.size ≤ n - 4) (p : Nat) (hp : p < n) (d : UInt8) (hd : (stampT s n).data.toList[p]? ≠ some d) : fitsR (setT (stampT s n) p d) = false := by
  obtain ⟨hz, hpz, _, _⟩ := read_stamp s n h1 h3
  have hl : (stampT s n).data.toList = (padT s n).data.toList ++ (WI.fourT (sumT (padT s n))).data.toList := app_data _ _
  have h4 := fourT_len (sumT (padT s n))
  have hpl : (padT s n).data.toList.length = n - 4 := by rw [← hpz]; exact Array.length_toList
  generalize padT s n = P at hl h4 hpl
  generalize hsum : sumT P = v at hl h4
  unfold fitsR
  apply toList_ne
  unfold backT
  show _ ≠ (WI.fourT (sumL (frontT (setT (stampT s n) p d)).data.toList)).data.toList
  unfold frontT
  rw [setT_size, hz, show n - 4 + 4 - 4 = n - 4 by omega, show n - 4 + 4 = n by omega, ext_data, ext_data, setT_data, hl]
  rw [hl] at hd
  by_cases hlt : p < n - 4
  · rw [List.set_append_left _ _ (by omega)]
    rw [List.drop_append_of_le_length (by simp [hpl]), List.drop_of_length_le (by simp [hpl]), List.nil_append, List.take_of_length_le (by omega)]
    rw [List.drop_zero, Nat.sub_zero, List.take_append_of_le_length (by simp [hpl]), List.take_of_length_le (by simp [hpl])]
    rw [List.getElem?_append_left (by omega)] at hd
    intro h
    have := fourT_inj (by rw [← hsum]; exact sumL_b _) (sumL_b _) h
    rw [← hsum] at this
    refine sumL_set P.data.toList p (by omega) d (fun e => hd ?_) this.symm
    rw [List.getElem?_eq_getElem (by omega), e]
  · rw [List.set_append_right _ _ (by omega), hpl]
    rw [List.drop_append_of_le_length (by omega), List.drop_of_length_le (by omega), List.nil_append, List.take_of_length_le (by simp [h4]; omega)]
    rw [List.drop_zero, Nat.sub_zero, List.take_append_of_le_length (by omega), List.take_of_length_le (by omega)]
    rw [List.getElem?_append_right (by omega), hpl] at hd
    rw [show sumL P.data.toList = v from hsum]
    exact ne_set (by omega) hd
end Go.Proofs.Ytacogpogplionaa.SM
