/- rec: Get of what was put and then changed in one byte, or cut short. No condition. -/
import Derived.Test.YtmfbggdoejcpiaaRec13
namespace Go.Proofs.Ytmfbggdoejcpiaa.RC
open Go.RowKit Go.Proofs.Ytmfbggdoejcpiaa.WI Go.Proofs.Ytmfbggdoejcpiaa.SM
set_option linter.unusedVariables false
set_option linter.unusedSimpArgs false

theorem ba_ext {a b : ByteArray} (h : a.data.toList = b.data.toList) : a = b := by
  obtain ⟨⟨a⟩⟩ := a
  obtain ⟨⟨b⟩⟩ := b
  simp at h
  rw [h]
theorem ext_all (P : ByteArray) (s : Nat) (h : P.size ≤ s) : P.extract 0 s = P := by
  refine ba_ext ?_
  rw [SM.ext_data, List.drop_zero, List.take_of_length_le]
  have h0 : P.data.toList.length = P.size := Array.length_toList
  omega
theorem ext_set_far (P : ByteArray) (q : Nat) (d : UInt8) (i j : Nat) (h : j ≤ q) : (setT P q d).extract i j = P.extract i j := by
  refine ba_ext ?_
  rw [SM.ext_data, SM.ext_data, setT_data]
  rcases Nat.lt_or_ge i j with hij | hij
  · have e : ∀ l : List UInt8, (l.drop i).take (j - i) = (l.take j).drop i := fun l => by rw [List.drop_take]
    rw [e, e, List.take_set_of_le (by omega)]
  · rw [show j - i = 0 by omega, List.take_zero, List.take_zero]
theorem ext_set_in (P : ByteArray) (q : Nat) (d : UInt8) (i j : Nat) (h1 : i ≤ q) : (setT P q d).extract i j = setT (P.extract i j) (q - i) d := by
  refine ba_ext ?_
  rw [SM.ext_data, setT_data, setT_data, SM.ext_data, List.drop_set, if_neg (by omega), List.take_set]
section
variable {e l : Int} {xs : List Im} {n m : Nat}
theorem putT_size (hn : xs.length = n) (hm : secsN n = m) : (putT e l xs).size = 64 * m := by unfold putT; rw [putK_size, hn, hm]
theorem putT_at (hn : xs.length = n) (hm : secsN n = m) (k : Nat) (hk : k < m) : (putT e l xs).extract (64 * k) (64 * (k + 1)) = secT e l n (bodyK xs n) k := by
  have hput : putT e l xs = putK e l n (bodyK xs n) m := by unfold putT; rw [hn, hm]
  refine sector_at _ e l n (bodyK xs n) m k hk ?_
  rw [hput]
  exact ext_all _ _ (by rw [putK_size]; omega)
theorem get_changed (hn : xs.length = n) (hm : secsN n = m) (hf : Fits e l xs) (hok : ∀ x ∈ xs, ImOk x) (he : 0 ≤ e ∧ e ≤ 18446744073709551615) (hl : 0 ≤ l ∧ l ≤ 18446744073709551615)
    (q : Nat) (hq : q < 64 * m) (d : UInt8) (hd : (putT e l xs).data.toList[q]? ≠ some d) (w : World) :
    Calls Try.prog 10 #[.string (setT (putT e l xs) q d)] w fun x w' => x = .returned (.tuple #[.agg #[.int .u64 0, .int .u64 0, .slice none 0 0], .int .i64 0, .int .i64 6]) ∧ Below w.heap.size w w' := by
  have hn1 := hf.n1
  have hn2 := hf.n2
  rw [hn] at hn1 hn2
  have hgood := hf.good hok
  obtain ⟨m1, m2, m3, m4⟩ := secs_facts hn1 hn2
  rw [hm] at m1 m2 m3 m4
  obtain ⟨p, hp⟩ : ∃ p, q / 64 = p := ⟨_, rfl⟩
  have hpm : p < m := by omega
  have hps := putT_size (e := e) (l := l) hn hm
  have hsz : (setT (putT e l xs) q d).size = 64 * m := by rw [setT_size, hps]
  have hat : (putT e l xs).data.toList[q]? = (secT e l n (bodyK xs n) p).data.toList[q - 64 * p]? := by
    rw [← putT_at hn hm p hpm, SM.ext_data, List.getElem?_take, if_pos (by omega), List.getElem?_drop, show 64 * p + (q - 64 * p) = q by omega]
  rw [hat] at hd
  have hbad : fitsR ((setT (putT e l xs) q d).extract (64 * p) (64 * (p + 1))) = false := by
    rw [ext_set_in _ _ _ _ _ (by omega), putT_at hn hm p hpm]
    exact fitsR_set _ 64 (by omega) (by have := lab_part (e := e) (l := l) (n := n) (B := bodyK xs n) p; omega) (q - 64 * p) (by omega) d hd
  have hsec : ∀ k, k < p → (setT (putT e l xs) q d).extract (64 * k) (64 * (k + 1)) = secT e l n (bodyK xs n) k := fun k hk => by
    rw [ext_set_far _ _ _ _ _ (by omega)]
    exact putT_at hn hm k (by omega)
  rcases Nat.eq_zero_or_pos p with h0 | h1
  · rw [h0] at hbad
    exact get_none _ (by rw [hsz]; omega) (by rw [hsz]; omega) hbad w
  · exact get_stop _ (by rw [hsz]; omega) e l (bodyK xs n) n m p hn1 hn2 hm hf.e hf.l he hl (by rw [hsz]; omega) h1 hpm hsec hbad w
theorem get_cut (hn : xs.length = n) (hm : secsN n = m) (hf : Fits e l xs) (he : 0 ≤ e ∧ e ≤ 18446744073709551615) (hl : 0 ≤ l ∧ l ≤ 18446744073709551615)
    (s : Nat) (hs1 : 64 ≤ s) (hs2 : s < 64 * m) (w : World) :
    Calls Try.prog 10 #[.string ((putT e l xs).extract 0 s)] w fun x w' => x = .returned (.tuple #[.agg #[.int .u64 0, .int .u64 0, .slice none 0 0], .int .i64 0, .int .i64 5]) ∧ Below w.heap.size w w' := by
  have hn1 := hf.n1
  have hn2 := hf.n2
  rw [hn] at hn1 hn2
  obtain ⟨m1, m2, m3, m4⟩ := secs_facts hn1 hn2
  rw [hm] at m1 m2 m3 m4
  have hps := putT_size (e := e) (l := l) hn hm
  have hsz : ((putT e l xs).extract 0 s).size = s := by rw [ByteArray.size_extract, hps]; omega
  refine get_short _ (by omega) e l (bodyK xs n) n m hn1 hn2 hm hf.e hf.l he hl (by omega) (by omega) ?_ w
  have h0 := putT_at (e := e) (l := l) hn hm 0 (by omega)
  rw [show 64 * 0 = 0 from rfl, show 64 * (0 + 1) = 64 from rfl] at h0
  rw [← h0]
  refine ba_ext ?_
  rw [SM.ext_data, SM.ext_data, SM.ext_data]
  simp only [Nat.sub_zero, List.drop_zero]
  rw [List.take_take, Nat.min_eq_left (by omega)]
end
end Go.Proofs.Ytmfbggdoejcpiaa.RC
