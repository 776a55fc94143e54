/- wire.Writer: Num of 1, 4 and 8 bytes, onto whatever stands there. No condition. -/
import Derived.Test.YtacogpogplionaaFour
namespace Go.Proofs.Ytacogpogplionaa.WI
set_option maxRecDepth 100000
open Go.RowKit
set_option linter.unusedVariables false

theorem wrong1 (v : Int) (h0 : 0 ≤ v) (h1 : v ≤ 255) (w : World) : Calls Try.prog 31 #[.int .u64 v, .int .i64 1] w fun e w' => e = .returned (.int .i64 0) ∧ w = w' := by
  have hs : v / 256 = 0 := by omega
  go_enter Try.func31, Try.ntmps31
  go_wp2
  go_ret
  exact ⟨rfl, rfl⟩
theorem wrong8 (v : Int) (w : World) : Calls Try.prog 31 #[.int .u64 v, .int .i64 8] w fun e w' => e = .returned (.int .i64 0) ∧ w = w' := by
  go_enter Try.func31, Try.ntmps31
  go_wp2
  go_ret
  exact ⟨rfl, rfl⟩
set_option maxRecDepth 100000 in
set_option maxHeartbeats 1600000 in
theorem num_any {W w : World} {B g : Nat} {bs : List Int} (h : Wr W B g bs w) (hbl : bs.length ≤ 1000000) (v : Int) (h0 : 0 ≤ v) (h1 : v ≤ 18446744073709551615) (n : Nat) (hn8 : n ≤ 8)
    (hw : Calls Try.prog 31 #[.int .u64 v, .int .i64 (n : Int)] w fun e w' => e = .returned (.int .i64 0) ∧ w = w') :
    Calls Try.prog 17 #[.pointer (some ⟨g, 0, none⟩), .int .u64 v, .int .i64 (n : Int)] w fun e w' => e = .returned (.pointer (some ⟨g, 0, none⟩)) ∧ Wr W B g (bs ++ lowB v n) w' := by
  obtain ⟨i0, hi, hz0, hz1, hz2⟩ := info_parts infoB
  obtain ⟨a, c, hb, ho, hB, hBg⟩ := h
  have hf := fails_ok hb
  go_enter Try.func17, Try.ntmps17
  go_wp2_with (first
    | (go_at_call 31; refine hw.mono ?_; rintro e w' ⟨rfl, rfl⟩)
    | (go_at_call 30; refine hf.mono ?_; rintro e w2 ⟨rfl, hb2, hk2⟩))
  have h2 : Wr W B g (bs ++ lowB v 0) w2 := by
    rw [show bs ++ lowB v 0 = bs from List.append_nil _]
    exact ⟨a, c, hb2, own_keeps ho hk2 (fun k h3 h4 => own_ne ho hb (by decide) (by rw [h3, show k = g from h4])), hk2.after hB (fun k hk => by rw [show k = g from hk]; exact hBg) (by have := hb.lt; omega), hBg⟩
  have H2 := Lib.hid h2
  clear hw hb ho hB hf hb2 hk2 h2
  go_loopw [1, 18] (fun x i wr => ∃ k : Nat, k ≤ n ∧ i = .int .i64 (k : Int) ∧ x = .int .u64 (shr8 v k) ∧ Hid (Wr W B g (bs ++ lowB v k) wr)) (fun _ i _ => n - (intOf i).toNat)
  case atStart => exact ⟨0, by omega, rfl, rfl, H2⟩
  case round =>
    obtain ⟨k, hk, rfl, rfl, hwr⟩ := hrel
    clear H2
    by_cases hlt : k < n
    · obtain ⟨a, c, hb, ho, hB, _⟩ := hwr.out
      have hs8 := shr8_b h0 (by omega) k
      have hsn : (bs ++ lowB v k) ++ [shr8 v k % 256] = bs ++ lowB v (k + 1) := by rw [lowB_snoc, List.append_assoc]
      have HS := Lib.hid hsn
      have hll : (bs ++ lowB v k).length ≤ 1000008 := by rw [List.length_append, lowB_len]; omega
      obtain ⟨xs, hxs⟩ : ∃ xs, bs ++ lowB v k = xs := ⟨_, rfl⟩
      rw [hxs] at hb ho hll HS
      obtain ⟨L, hL⟩ : ∃ L, xs.length = L := ⟨_, rfl⟩
      have c0 : wr.cell? ⟨g, 0, none⟩ = some (.slice a xs.length c) := hb.cell 0
      have HW := Lib.hid (show Blk wr g 47 #[.slice a xs.length c, .int .i64 0] ∧ wr.ownsRow B 5 1 (.slice a xs.length c) xs.length (xs.map byteV) ∧ Below B W wr from ⟨hb, ho, hB⟩)
      rw [hL] at ho c0 hll
      have ho1 := ho.alloc (.cells #[.int .u8 (shr8 v k % 256)] 5)
      have hBw : B ≤ (wr.alloc (.cells #[.int .u8 (shr8 v k % 256)] 5)).heap.size := by have := hb.lt; simp; omega
      have HO := Lib.hid (shr8_out v k)
      have HL := Lib.hid hL
      clear hb ho hB hL hxs hsn hwr
      go_wp2_with (at_builtin; refine wpList_append_lie _ rfl _ _ 37 rfl B 5 i0 _ 1 1 Try.underlying37 hi hz0 hz1 hz2 rfl (by decide) a L c (xs.map byteV) rfl ho1 (some ⟨wr.heap.size, 0, none⟩) 1 1 [.int .u8 (shr8 v k % 256)] rfl (Lies.of_blk (cs := #[.int .u8 (shr8 v k % 256)]) (Blk.new _ _ _)) (by simp [Value.oneCell']) (by unfold maxLen; omega) (by omega) hBw ?_; intro a2 cp2 w2 hown2 hg2 hat2
                   have m2 := Wr.push (x := shr8 v k % 256) (a2 := a2) (c2 := cp2) HW.out.1 HW.out.2.1 HW.out.2.2 hBg (by rw [HL.out]; exact hown2) hg2
                   rw [HL.out, HS.out] at m2
                   have M2 := Lib.hid m2.2
                   have c2 : w2.cell? ⟨g, 0, none⟩ = some (.slice a L c) := m2.1.cell 0
                   have f2 := m2.1.frozen 0
                   clear hown2 hg2 hat2 ho1 m2 c0)
      go_roundw
      case rel => exact ⟨k + 1, by omega, by go_num, by rw [HO.out], M2⟩
      case measure => simp [intOf]; omega
    · obtain rfl : k = n := by omega
      go_wp2
      go_ret
      exact ⟨rfl, hwr.out⟩
theorem num_1 {W w : World} {B g : Nat} {bs : List Int} (h : Wr W B g bs w) (hbl : bs.length ≤ 1000000) (v : Int) (h0 : 0 ≤ v) (h1 : v ≤ 255) :
    Calls Try.prog 17 #[.pointer (some ⟨g, 0, none⟩), .int .u64 v, .int .i64 1] w fun e w' => e = .returned (.pointer (some ⟨g, 0, none⟩)) ∧ Wr W B g (bs ++ lowB v 1) w' := num_any h hbl v h0 (by omega) 1 (by omega) (wrong1 v h0 h1 w)
theorem num_4 {W w : World} {B g : Nat} {bs : List Int} (h : Wr W B g bs w) (hbl : bs.length ≤ 1000000) (v : Int) (h0 : 0 ≤ v) (h1 : v ≤ 4294967295) :
    Calls Try.prog 17 #[.pointer (some ⟨g, 0, none⟩), .int .u64 v, .int .i64 4] w fun e w' => e = .returned (.pointer (some ⟨g, 0, none⟩)) ∧ Wr W B g (bs ++ lowB v 4) w' := num_any h hbl v h0 (by omega) 4 (by omega) (wrong4 v h0 h1 w)
theorem num_8 {W w : World} {B g : Nat} {bs : List Int} (h : Wr W B g bs w) (hbl : bs.length ≤ 1000000) (v : Int) (h0 : 0 ≤ v) (h1 : v ≤ 18446744073709551615) :
    Calls Try.prog 17 #[.pointer (some ⟨g, 0, none⟩), .int .u64 v, .int .i64 8] w fun e w' => e = .returned (.pointer (some ⟨g, 0, none⟩)) ∧ Wr W B g (bs ++ lowB v 8) w' := num_any h hbl v h0 h1 8 (by omega) (wrong8 v w)
theorem wr_new (w : World) : Wr w w.heap.size w.heap.size [] (w.alloc (.cells #[.slice none 0 0, .int .i64 0] 47)) := ⟨none, 0, Blk.new _ _ _, World.ownsRow_nil _ _ _ _, (Below.refl _ _).alloc (Nat.le_refl _) _, Nat.le_refl _⟩
theorem Wr.bel {W w : World} {B g : Nat} {bs : List Int} (h : Wr W B g bs w) : Below B W w := by obtain ⟨_, _, _, _, hB, _⟩ := h; exact hB
theorem Wr.drew {W w : World} {B g : Nat} {bs : List Int} (h : Wr W B g bs w) : Wr W B g bs w.drew := by
  obtain ⟨a, c, h1, h2, h3, h4⟩ := h
  exact ⟨a, c, h1.drew, h2.drew, h3.drew, h4⟩
theorem Wr.cell {W w : World} {B g : Nat} {bs : List Int} (h : Wr W B g bs w) {b i : Nat} {v : Value} (hb : b < B) (hc : W.cell? ⟨b, i, none⟩ = some v) : w.cell? ⟨b, i, none⟩ = some v := (h.bel.cell (p := ⟨b, i, none⟩) hb).trans hc
theorem strOf_size (bs : List Int) : (strOfNums bs).size = bs.length := by
  show (strOfNums bs).data.size = _
  rw [← Array.length_toList]
  show (bs.map fun x => UInt8.ofNat x.toNat).length = _
  rw [List.length_map]
/-- The bytes of a number, as text. -/
def numT (v : Int) (n : Nat) : ByteArray := strOfNums (lowB v n)
end Go.Proofs.Ytacogpogplionaa.WI
