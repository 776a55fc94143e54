/- SumBack: the walk. No condition. -/
import Derived.Test.YtooapgeokonlhaaSumLaw
import Derived.BigGuardPart
namespace Go.Proofs.Ytooapgeokonlhaa.sumBack
open Go.RowKit Go.Proofs.Ytooapgeokonlhaa.SM
set_option linter.unusedVariables false

theorem zerosT_get (k i : Nat) (h : i < (zerosT k).size) : (zerosT k)[i] = 0 := by
  have e : Lib.repeatL [0] k = List.replicate k 0 := by
    have := Lib.repeatL_replicate 0 1 k
    simpa using this
  have hd : (zerosT k).data = (List.replicate k 0).toArray := by unfold zerosT; rw [e]
  have : (zerosT k)[i] = (zerosT k).data[i]'h := rfl
  rw [this]
  simp [hd]
set_option maxHeartbeats 1000000 in
set_option maxRecDepth 100000 in
theorem walk (s : ByteArray) (n : Int) (w : World) (_g0 : s.size ≤ maxLen) (g1 : (Lit.int .i64 n).wf = true) :
    Calls Try.prog 4 #[.string s, .int .i64 n] w fun e w' => e = .returned (.bool true) ∧ Below w.heap.size w w' := by
  unfold maxLen at _g0
  have hbn := bounds_i64 g1
  by_cases c1 : (3000 : Int) < s.size
  · go_enter Try.func4, Try.ntmps4
    go_wp2_with (go_at_call 8; refine (alive_any _).mono ?_; rintro e w1 ⟨rfl, hb⟩)
    go_ret
    exact ⟨rfl, hb⟩
  by_cases c2 : 4000 < n
  · go_enter Try.func4, Try.ntmps4
    go_wp2_with (go_at_call 8; refine (alive_any _).mono ?_; rintro e w1 ⟨rfl, hb⟩)
    go_ret
    exact ⟨rfl, hb⟩
  obtain ⟨o1, o2, o3, o4⟩ := open_seal s
  have kseal := seal_any s (by omega)
  have kopen := open_ok (sealT s) o1 (by rw [o2]; omega) o3
  rw [o4] at kopen
  obtain ⟨X, hX⟩ : ∃ X, sealT s = X := ⟨_, rfl⟩
  rw [hX] at kseal kopen
  clear hX o1 o2 o3 o4
  by_cases c3 : n < 4
  · have kst := stamp_arg s n (.inl c3)
    go_enter Try.func4, Try.ntmps4
    go_wp2_with (first
      | (go_at_call 18; refine (kseal _).mono ?_; rintro e w1 ⟨rfl, hw1⟩)
      | (go_at_call 10; refine (kopen _).mono ?_; rintro e w2 ⟨rfl, hw2⟩)
      | (go_at_call 14; refine (kst _).mono ?_; rintro e w' ⟨rfl, rfl⟩)
      | (go_at_call 8; refine (alive_any _).mono ?_; rintro e w4 ⟨rfl, hw4⟩))
    go_ret
    exact ⟨rfl, belowThen (belowThen hw1 hw2) hw4⟩
  by_cases c4 : n - 4 < (s.size : Int)
  · have kst := stamp_long s n c3 (by omega) c4
    go_enter Try.func4, Try.ntmps4
    go_wp2_with (first
      | (go_at_call 18; refine (kseal _).mono ?_; rintro e w1 ⟨rfl, hw1⟩)
      | (go_at_call 10; refine (kopen _).mono ?_; rintro e w2 ⟨rfl, hw2⟩)
      | (go_at_call 14; refine (kst _).mono ?_; rintro e w' ⟨rfl, rfl⟩)
      | (go_at_call 8; refine (alive_any _).mono ?_; rintro e w4 ⟨rfl, hw4⟩))
    go_ret
    exact ⟨rfl, belowThen (belowThen hw1 hw2) hw4⟩
  obtain ⟨N, rfl⟩ : ∃ N : Nat, n = (N : Int) := ⟨n.toNat, by omega⟩
  obtain ⟨m, hmN⟩ : ∃ m : Nat, N = m + 4 := ⟨N - 4, by omega⟩
  have hm : s.size ≤ m := by omega
  have kst := stamp_ok s N (by omega) (by omega) (by omega)
  obtain ⟨r1, r2, r3, r4⟩ := read_stamp s N (by omega) (by omega)
  have krd := read_ok (stampT s N) m (by rw [r1]; omega) (by rw [r1]; omega) r3
  rw [show (stampT s N).extract 0 m = padT s N by rw [← r4, hmN]; rfl] at krd
  have hpad : padT s N = s ++ zerosT (m - s.size) := by unfold padT; rw [hmN]; rfl
  have hz1 : (padT s N).size = m := by rw [r2]; omega
  have hfront : (padT s N).extract 0 s.size = s := by rw [hpad]; exact ext_front _ _
  have hzero : ∀ k (hk : k < (padT s N).size), s.size ≤ k → ((padT s N)[k].toNat : Int) = 0 := by
    rw [hpad]
    intro k hk h
    rw [ByteArray.getElem_append_right h, zerosT_get]
    rfl
  obtain ⟨b, hb⟩ : ∃ b, padT s N = b := ⟨_, rfl⟩
  obtain ⟨t, ht⟩ : ∃ t, stampT s N = t := ⟨_, rfl⟩
  have htz : t.size = N := by rw [← ht, r1]; omega
  rw [hb] at krd hz1 hfront hzero
  rw [ht] at kst krd
  have d1 : (s.size : Int) ≤ (b.size : Int) := by omega
  have d2 : (b.size : Int) ≤ 4000 := by omega
  have d3 : ((t.size : Int) != (N : Int)) = false := by rw [htz]; simp
  have d4 : ((b.size : Int) == (N : Int) - 4) = true := by rw [hz1, hmN]; simp
  have HZ := Lib.hid hzero
  have hfb : ((b.extract 0 s.size).toList == s.toList) = true := by rw [hfront]; simp
  clear hb ht htz hz1 hfront hzero hpad r1 r2 r3 r4 hmN hm
  go_enter Try.func4, Try.ntmps4
  go_wp2_with (first
    | (go_at_call 18; refine (kseal _).mono ?_; rintro e w1 ⟨rfl, hw1⟩)
    | (go_at_call 10; refine (kopen _).mono ?_; rintro e w2 ⟨rfl, hw2⟩)
    | (go_at_call 14; refine (kst _).mono ?_; rintro e w3 ⟨rfl, hw3⟩)
    | (go_at_call 12; refine (krd _).mono ?_; rintro e w4 ⟨rfl, hw4⟩))
  go_loopw [11] (fun i wr => ∃ k : Nat, i = .int .i64 (k : Int) ∧ k ≤ b.size ∧ s.size ≤ k ∧ wr = w4) (fun i _ => b.size - (intOf i).toNat)
  case atStart => exact ⟨s.size, rfl, by omega, by omega, rfl⟩
  case round =>
    obtain ⟨k, rfl, hk, hks, rfl⟩ := hrel
    by_cases hlt : k < b.size
    · have hbyte : (b[k].toNat : Int) = 0 := HZ.out k hlt hks
      go_wp2_with fail
      go_roundw
      case rel => exact ⟨k + 1, by go_num, by omega, by omega, by first | rfl | trivial⟩
      case measure => simp [intOf]; omega
    · go_wp2_with (go_at_call 8; refine (alive_any _).mono ?_; rintro e w5 ⟨rfl, hw5⟩)
      go_ret
      exact ⟨rfl, belowThen (belowThen (belowThen (belowThen hw1 hw2) hw3) hw4) hw5⟩
end Go.Proofs.Ytooapgeokonlhaa.sumBack
