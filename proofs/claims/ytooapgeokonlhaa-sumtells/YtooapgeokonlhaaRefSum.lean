/- The document's check sum (commonsref1.Sum). No condition. -/
import Derived.Test.YtooapgeokonlhaaCrc
import Derived.Test.YtooapgeokonlhaaChecked
import Derived.WalkSpells
import Derived.WalkLawsBesides
import Derived.Handy
import Derived.Lib.Hide
namespace Go.Proofs.Ytooapgeokonlhaa.SM
open Go.RowKit
set_option linter.unusedVariables false

theorem refsum_any (s : ByteArray) (w : World) (hs : s.size ≤ maxLen) :
    Calls Try.prog 17 #[.string s] w fun e w' => e = .returned (.int .u32 (sumL s.data.toList)) ∧ w = w' := by
  unfold maxLen at hs
  go_enter Try.func17, Try.ntmps17
  go_wp2
  go_loop [3, 4] (fun x i => ∃ k : Nat, k ≤ s.size ∧ i = .int .i64 (k : Int) ∧ x = .int .u32 (crcL 4294967295 (s.data.toList.take k))) (fun _ i => s.size - (intOf i).toNat)
  case atStart => exact ⟨0, Nat.zero_le _, rfl, rfl⟩
  case round =>
    obtain ⟨k, hk, rfl, rfl⟩ := hrel
    have hr := crcL_r (x := 4294967295) (by unfold U32; omega) (s.data.toList.take k)
    unfold U32 at hr
    by_cases hlt : k < s.size
    · have hsn : crcL 4294967295 (s.data.toList.take (k + 1)) = stepsI 8 (bits .xor .u32 (crcL 4294967295 (s.data.toList.take k)) (s[k].toNat : Int)) := by rw [take_next s k hlt, crcL_snoc]; rfl
      have HS := Lib.hid hsn
      clear hsn
      go_wp2
      go_loop [3, 5] (fun x i => ∃ j : Nat, j ≤ 8 ∧ i = .int .i64 (j : Int) ∧ x = .int .u32 (stepsI j (bits .xor .u32 (crcL 4294967295 (s.data.toList.take k)) (s[k].toNat : Int)))) (fun _ i => 8 - (intOf i).toNat)
      case atStart => exact ⟨0, by omega, rfl, by have := s[k].toNat_lt; rw [show ((s[k].toNat : Int) % 4294967296) = (s[k].toNat : Int) by omega]; rfl⟩
      case round =>
        obtain ⟨j, hj, rfl, rfl⟩ := hrel
        have hx := stepsI_r j (bits_u32 .xor (crcL 4294967295 (s.data.toList.take k)) (s[k].toNat : Int) (.inl rfl))
        generalize hX : stepsI j (bits .xor .u32 (crcL 4294967295 (s.data.toList.take k)) (s[k].toNat : Int)) = X at hx ⊢
        unfold U32 at hx
        have HX := Lib.hid hX
        clear hX
        by_cases hj8 : j < 8
        · by_cases ho : X % 2 = 1
          · go_wp2
            go_round
            case rel => exact ⟨j + 1, by omega, by go_num, by show _ = Value.int .u32 (stepI _); rw [HX.out]; unfold stepI; rw [if_pos ho]⟩
            case measure => simp [intOf]; omega
          · go_wp2
            go_round
            case rel => exact ⟨j + 1, by omega, by go_num, by show _ = Value.int .u32 (stepI _); rw [HX.out]; unfold stepI; rw [if_neg ho]⟩
            case measure => simp [intOf]; omega
        · obtain rfl : j = 8 := by omega
          go_wp2
          go_round
          case rel => exact ⟨k + 1, by omega, by go_num, by rw [HS.out, HX.out]⟩
          case measure => simp [intOf]; omega
    · go_wp2
      go_ret
      refine ⟨?_, rfl⟩
      unfold sumL
      rw [List.take_of_length_le (by simp; omega)]
      rfl
end Go.Proofs.Ytooapgeokonlhaa.SM
