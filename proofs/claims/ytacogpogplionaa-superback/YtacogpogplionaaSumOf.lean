/- sum.Of: the check sum of texts one behind the other. No condition. -/
import Derived.Test.YtacogpogplionaaRefSum
import Derived.Test.YtacogpogplionaaOpen
namespace Go.Proofs.Ytacogpogplionaa.SM
set_option maxRecDepth 100000
open Go.RowKit
set_option linter.unusedVariables false

/-- The bytes of texts one behind the other. -/
def allB (l : List ByteArray) : List UInt8 := l.flatMap (fun s => s.data.toList)
theorem allB_snoc (l : List ByteArray) (k : Nat) (s : ByteArray) (h : l[k]? = some s) : allB (l.take (k + 1)) = allB (l.take k) ++ s.data.toList := by
  unfold allB
  rw [List.take_add_one, h]
  simp

theorem and_one (x : Int) (h0 : 0 ≤ x) (h1 : x ≤ 4294967295) : bits .and .u32 x 1 = x % 2 := by
  obtain ⟨n, rfl⟩ : ∃ n : Nat, x = (n : Int) := ⟨x.toNat, by omega⟩
  show IntKind.u32.wrap ((BitVec.ofInt 32 (n : Int) &&& BitVec.ofInt 32 1).toNat : Int) = _
  have h2 : (BitVec.ofInt 32 (n : Int)).toNat = n := by rw [BitVec.ofInt_natCast, BitVec.toNat_ofNat]; exact Nat.mod_eq_of_lt (by omega)
  have h3 : (BitVec.ofInt 32 1).toNat = 1 := by decide
  rw [BitVec.toNat_and, h2, h3, Nat.and_one_is_mod]
  simp only [IntKind.wrap, IntKind.bits, IntKind.signed]
  simp
  omega

theorem xor_max (x : Int) (h0 : 0 ≤ x) (h1 : x ≤ 4294967295) : bits .xor .u32 IntKind.u32.max x = 4294967295 - x := by
  obtain ⟨n, rfl⟩ : ∃ n : Nat, x = (n : Int) := ⟨x.toNat, by omega⟩
  show IntKind.u32.wrap ((BitVec.ofInt 32 4294967295 ^^^ BitVec.ofInt 32 (n : Int)).toNat : Int) = _
  have h2 : (BitVec.ofInt 32 (n : Int)).toNat = n := by rw [BitVec.ofInt_natCast, BitVec.toNat_ofNat]; exact Nat.mod_eq_of_lt (by omega)
  have h3 : BitVec.ofInt 32 4294967295 = BitVec.allOnes 32 := by decide
  rw [h3, BitVec.allOnes_xor, BitVec.toNat_not, h2]
  simp only [IntKind.wrap, IntKind.bits, IntKind.signed]
  simp
  omega

theorem of_any (A : Option Addr) (n c : Nat) (l : List ByteArray) (w : World) (hl : Lies w 1 A n (l.map Value.string)) (hn : n ≤ maxLen) (hs : ∀ s ∈ l, s.size ≤ maxLen) :
    Calls Try.prog 34 #[.slice A n c] w fun e w' => e = .returned (.int .u32 (sumL (allB l))) ∧ w = w' := by
  unfold maxLen at hn
  have HL := Lib.hid hl
  have hln : l.length = n := by have := hl.1; simpa using this
  have HN := Lib.hid hln
  clear hl hln
  go_enter Try.func34, Try.ntmps34
  go_wp2
  go_loop [3, 10] (fun x i => ∃ k : Nat, k ≤ n ∧ i = .int .i64 (k : Int) ∧ x = .int .u32 (crcL 4294967295 (allB (l.take k)))) (fun _ i => n - (intOf i).toNat)
  case atStart => exact ⟨0, Nat.zero_le _, rfl, rfl⟩
  case round =>
    obtain ⟨k, hk, rfl, rfl⟩ := hrel
    by_cases hlt : k < n
    · obtain ⟨ad, u, rfl, hu, hcell⟩ := HL.out.at_ hlt
      obtain ⟨s, hsk, rfl⟩ : ∃ s, l[k]? = some s ∧ Value.string s = u := by simpa using hu
      have hsz := hs s (List.mem_of_getElem? hsk)
      unfold maxLen at hsz
      have hal := allB_snoc l k s hsk
      have HA := Lib.hid hal
      clear hu hsk hal
      generalize hP : allB (l.take k) = P at HA ⊢
      clear hP
      go_wp2_with fail
      go_loop [3, 16] (fun x i => ∃ m : Nat, m ≤ s.size ∧ i = .int .i64 (m : Int) ∧ x = .int .u32 (crcL 4294967295 (P ++ s.data.toList.take m))) (fun _ i => s.size - (intOf i).toNat)
      case atStart => exact ⟨0, Nat.zero_le _, rfl, by simp⟩
      case round =>
        obtain ⟨m, hm, rfl, rfl⟩ := hrel
        have hr := crcL_r (x := 4294967295) (by unfold U32; omega) (P ++ s.data.toList.take m)
        unfold U32 at hr
        by_cases hms : m < s.size
        · have hsn : crcL 4294967295 (P ++ s.data.toList.take (m + 1)) = stepsI 8 (bits .xor .u32 (crcL 4294967295 (P ++ s.data.toList.take m)) (s[m].toNat : Int)) := by rw [take_next s m hms, ← List.append_assoc, crcL_snoc]; rfl
          have HS := Lib.hid hsn
          clear hsn
          go_wp2
          go_loop [3, 25] (fun x i => ∃ j : Nat, j ≤ 8 ∧ i = .int .i64 (j : Int) ∧ x = .int .u32 (stepsI j (bits .xor .u32 (crcL 4294967295 (P ++ s.data.toList.take m)) (s[m].toNat : Int)))) (fun _ i => 8 - (intOf i).toNat)
          case atStart => exact ⟨0, by omega, rfl, by have := s[m].toNat_lt; rw [show ((s[m].toNat : Int) % 4294967296) = (s[m].toNat : Int) by omega]; rfl⟩
          case round =>
            obtain ⟨j, hj, rfl, rfl⟩ := hrel
            have hx := stepsI_r j (bits_u32 .xor (crcL 4294967295 (P ++ s.data.toList.take m)) (s[m].toNat : Int) (.inl rfl))
            generalize hX : stepsI j (bits .xor .u32 (crcL 4294967295 (P ++ s.data.toList.take m)) (s[m].toNat : Int)) = X at hx ⊢
            unfold U32 at hx
            have HX := Lib.hid hX
            clear hX
            have h1 : bits .and .u32 X 1 = X % 2 := and_one X hx.1 hx.2
            by_cases hj8 : j < 8
            · by_cases ho : X % 2 = 1
              · go_wp2
                go_round
                case rel => exact ⟨j + 1, by omega, by go_num, by show _ = Value.int .u32 (stepI _); rw [HX.out]; unfold stepI; rw [if_pos ho]⟩
                case measure => simp [intOf]; omega
              · go_wp2
                go_round
                case rel => exact ⟨j + 1, by omega, by go_num, by show _ = Value.int .u32 (stepI _); rw [HX.out]; unfold stepI; rw [if_neg ho]⟩
                case measure => simp [intOf]; omega
            · obtain rfl : j = 8 := by omega
              go_wp2
              go_round
              case rel => exact ⟨m + 1, by omega, by go_num, by rw [HS.out, HX.out]⟩
              case measure => simp [intOf]; omega
        · obtain rfl : m = s.size := by omega
          go_wp2
          go_round
          case rel => exact ⟨k + 1, by omega, by go_num, by rw [HA.out, List.take_of_length_le (by simp)]⟩
          case measure => simp [intOf]; omega
    · obtain rfl : k = n := by omega
      have hr := crcL_r (x := 4294967295) (by unfold U32; omega) (allB (l.take k))
      have e1 : l.take k = l := List.take_of_length_le (by have := HN.out; omega)
      rw [e1] at hr ⊢
      clear e1
      unfold U32 at hr
      go_wp2
      go_ret
      exact ⟨by show _ = Ending.returned (.int .u32 (4294967295 - crcL 4294967295 (allB l))); rw [← xor_max _ hr.1 hr.2]; rfl, rfl⟩
end Go.Proofs.Ytacogpogplionaa.SM
