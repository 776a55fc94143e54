/- commonsbook's helpers over texts: Room, Short, LentTexts, StaysTexts. No condition. -/
import Derived.Test.YtooapgeokonlhaaSameTexts
import Derived.Test.YtooapgeokonlhaaAppend
import Derived.Test.YtooapgeokonlhaaMore
import Derived.Test.YtooapgeokonlhaaRegInv
namespace Go.Proofs.Ytooapgeokonlhaa.Bk
open Go.RowKit
set_option linter.unusedVariables false

def roomF (left sz : Int) : Int := if left < 0 ∨ left < sz then -1 else left - sz
theorem room_one (left sz : Int) {W : World} {g : Nat} (h : Blk W g 3 #[.int .i64 sz]) (h0 : 0 ≤ sz) (h1 : sz ≤ 9223372036854775807) (h2 : -1 ≤ left) (h3 : left ≤ 1000000000) :
    Calls Try.prog 21 #[.int .i64 left, .slice (some ⟨g, 0, none⟩) 1 1] W fun e w' => e = .returned (.int .i64 (roomF left sz)) ∧ W = w' := by
  have c0 : W.cell? ⟨g, 0, none⟩ = some (.int .i64 sz) := h.cell 0
  clear h
  by_cases a1 : left < 0
  · have r : roomF left sz = -1 := by unfold roomF; rw [if_pos (.inl a1)]
    rw [r]
    clear r
    go_enter Try.func21, Try.ntmps21
    go_wp2
    go_loop [0, 5] (fun x i => x = .int .i64 left ∧ i = .int .i64 0) (fun _ i => 1 - (intOf i).toNat)
    case atStart => exact ⟨rfl, rfl⟩
    case round =>
      obtain ⟨rfl, rfl⟩ := hrel
      go_wp2
      go_ret
      exact ⟨rfl, rfl⟩
  by_cases a2 : left < sz
  · have r : roomF left sz = -1 := by unfold roomF; rw [if_pos (.inr a2)]
    rw [r]
    clear r
    go_enter Try.func21, Try.ntmps21
    go_wp2
    go_loop [0, 5] (fun x i => x = .int .i64 left ∧ i = .int .i64 0) (fun _ i => 1 - (intOf i).toNat)
    case atStart => exact ⟨rfl, rfl⟩
    case round =>
      obtain ⟨rfl, rfl⟩ := hrel
      go_wp2
      go_ret
      exact ⟨rfl, rfl⟩
  · have r : roomF left sz = left - sz := by unfold roomF; rw [if_neg (by omega)]
    rw [r]
    clear r
    go_enter Try.func21, Try.ntmps21
    go_wp2
    go_loop [0, 5] (fun x i => (x = .int .i64 left ∧ i = .int .i64 0) ∨ (x = .int .i64 (left - sz) ∧ i = .int .i64 1)) (fun _ i => 1 - (intOf i).toNat)
    case atStart => exact .inl ⟨rfl, rfl⟩
    case round =>
      rcases hrel with ⟨rfl, rfl⟩ | ⟨rfl, rfl⟩
      · go_wp2
        go_round
        case rel => exact .inr ⟨rfl, rfl⟩
        case measure => simp [intOf]
      · go_wp2
        go_ret
        exact ⟨rfl, rfl⟩

/-- The sizes of texts, together. -/
def sumSz (l : List ByteArray) : Nat := (l.map ByteArray.size).sum
theorem sumSz_snoc (l : List ByteArray) (k : Nat) (s : ByteArray) (h : l[k]? = some s) : sumSz (l.take (k + 1)) = sumSz (l.take k) + s.size := by
  unfold sumSz
  rw [List.take_add_one, h]
  simp
def ShortOut (few room n : Nat) (l : List ByteArray) (w : World) (e : Ending) (w' : World) : Prop := ∃ b : Bool, e = .returned (.bool b) ∧ (b = true → n ≤ few ∧ sumSz l ≤ room) ∧ Below w.heap.size w w'
theorem short_any (few room : Nat) (A : Option Addr) (n c : Nat) (l : List ByteArray) (w : World) (hl : Lies w 1 A n (l.map Value.string)) (hn : n ≤ maxLen) (hs : ∀ s ∈ l, s.size ≤ maxLen) (hf : few ≤ 1000000) (hr : room ≤ 1000000) :
    Calls Try.prog 7 #[.int .i64 (few : Int), .int .i64 (room : Int), .slice A n c] w (ShortOut few room n l w) := by
  unfold maxLen at hn
  have hln : l.length = n := by have := hl.1; simpa using this
  have HL := Lib.hid hl
  have HN := Lib.hid hln
  have HB := Lib.hid hs
  clear hl hln hs
  by_cases c1 : (few : Int) < (n : Int)
  · go_enter Try.func7, Try.ntmps7
    go_wp2
    go_ret
    exact ⟨false, rfl, (by intro h; cases h), belowSame _⟩
  go_enter Try.func7, Try.ntmps7
  go_wp2
  go_loopw [1, 7] (fun x i wr => ∃ (k : Nat) (r : Int), k ≤ n ∧ i = .int .i64 (k : Int) ∧ x = .int .i64 r ∧ (r = -1 ∨ (0 ≤ r ∧ r = (room : Int) - (sumSz (l.take k) : Int))) ∧ Below w.heap.size w wr) (fun _ i _ => n - (intOf i).toNat)
  case atStart => exact ⟨0, _, by omega, rfl, rfl, .inr ⟨by omega, by simp [sumSz]⟩, belowSame _⟩
  case round =>
    obtain ⟨k, r, hk, rfl, rfl, hr', hB⟩ := hrel
    have HR := Lib.hid hr'
    have hr1 : -1 ≤ r := by rcases hr' with rfl | ⟨h, _⟩ <;> omega
    have hr2 : r ≤ 1000000000 := by rcases hr' with rfl | ⟨h, h2⟩ <;> omega
    clear hr'
    by_cases hneg : r < 0
    · have hne : ¬ (0 : Int) ≤ r := by omega
      by_cases hlt : k < n
      · go_wp2
        go_ret
        exact ⟨false, rfl, (by intro h; cases h), hB⟩
      · go_wp2
        go_ret
        exact ⟨false, rfl, (by intro h; cases h), hB⟩
    · have hge : (0 : Int) ≤ r := by omega
      by_cases hlt : k < n
      · obtain ⟨ad, u, rfl, hu, hcell⟩ := HL.out.at_ hlt
        obtain ⟨s, hsk, rfl⟩ : ∃ s, l[k]? = some s ∧ Value.string s = u := by simpa using hu
        have hsz := HB.out s (List.mem_of_getElem? hsk)
        unfold maxLen at hsz
        have hc : wr.cell? (ad.add k) = some (.string s) := by rw [hB.cell (World.block_lt_of_cell? w _ hcell)]; exact hcell
        have HS := Lib.hid (sumSz_snoc l k s hsk)
        have kr := room_one r (s.size : Int) (Blk.new wr 3 #[.int .i64 (s.size : Int)]) (by omega) (by omega) hr1 hr2
        clear hu hcell hsk
        go_wp2_with (go_at_call 21; refine kr.mono ?_; rintro e w' ⟨rfl, rfl⟩)
        go_roundw
        case rel =>
          refine ⟨k + 1, roomF r s.size, by omega, by go_num, rfl, ?_, belowNew hB _⟩
          unfold roomF
          split
          · exact .inl rfl
          · refine .inr ⟨by omega, ?_⟩
            have := HS.out
            rcases HR.out with h | ⟨_, h⟩ <;> omega
        case measure => simp [intOf]; omega
      · obtain rfl : k = n := by omega
        go_wp2
        go_ret
        refine ⟨true, rfl, fun _ => ⟨by omega, ?_⟩, hB⟩
        rcases HR.out with h | ⟨_, h⟩
        · omega
        · rw [List.take_of_length_le (by have := HN.out; omega)] at h
          omega
end Go.Proofs.Ytooapgeokonlhaa.Bk
