/- The writer of wire: the calls that sum.four makes. No condition. -/
import Derived.Test.YtacogpogplionaaMore
import Derived.Test.YtacogpogplionaaAppend
import Derived.Test.YtacogpogplionaaCrc
import Derived.Test.YtacogpogplionaaChecked
import Derived.BigQuiet
import Derived.Deep.QuietTactic
import Derived.Deep.RegionLaw
import Derived.WalkSpells
import Derived.WalkLawsBesides
import Derived.Handy
namespace Go.Proofs.Ytacogpogplionaa.WI
set_option maxRecDepth 100000
open Go.RowKit
set_option linter.unusedVariables false

theorem own_blk_ (a : Option Addr) (n c : Nat) : (Value.slice a n c).ownBlock = (Value.slice a 0 0).ownBlock := by cases a <;> rfl
theorem wrong4 (v : Int) (h0 : 0 ≤ v) (h1 : v ≤ 4294967295) (w : World) : Calls Try.prog 31 #[.int .u64 v, .int .i64 4] w fun e w' => e = .returned (.int .i64 0) ∧ w = w' := by
  have hs : v / 4294967296 = 0 := by omega
  go_enter Try.func31, Try.ntmps31
  go_wp2
  go_ret
  exact ⟨rfl, rfl⟩
theorem fails_ok {w : World} {g : Nat} {a : Option Addr} {n c : Nat} (hb : Blk w g 47 #[.slice a n c, .int .i64 0]) : Calls Try.prog 30 #[.pointer (some ⟨g, 0, none⟩), .int .i64 0] w fun e w' => e = .returned (.bool false) ∧ Blk w' g 47 #[.slice a n c, .int .i64 0] ∧ Keeps (only g) w w' := by
  have c1 : w.cell? ⟨g, 1, none⟩ = some (.int .i64 0) := hb.cell 1
  have f1 := hb.frozen 1
  have B := hb.set_ 1 (.int .i64 0)
  have K := keep1 w g 1 (.int .i64 0)
  have HB := Lib.hid B
  have HK := Lib.hid K
  clear B K
  go_enter Try.func30, Try.ntmps30
  go_wp2
  go_ret
  exact ⟨rfl, HB.out, HK.out⟩
def byteV (b : Int) : Value := .int .u8 b
/-- The first k bytes of a number, the lowest first. -/
def lowB (v : Int) : Nat → List Int
  | 0 => []
  | k + 1 => v % 256 :: lowB (v / 256) k
theorem lowB_len (v : Int) (k : Nat) : (lowB v k).length = k := by
  induction k generalizing v with
  | zero => rfl
  | succ k ih => simp [lowB, ih]
def shr8 (v : Int) : Nat → Int
  | 0 => v
  | k + 1 => shr8 (v / 256) k
theorem shr8_out (v : Int) (k : Nat) : shr8 v (k + 1) = shr8 v k / 256 := by
  induction k generalizing v with
  | zero => rfl
  | succ k ih => exact ih (v / 256)
theorem lowB_snoc (v : Int) (k : Nat) : lowB v (k + 1) = lowB v k ++ [shr8 v k % 256] := by
  induction k generalizing v with
  | zero => rfl
  | succ k ih => show v % 256 :: lowB (v / 256) (k + 1) = _; rw [ih]; rfl
theorem shr8_b {v : Int} (h0 : 0 ≤ v) (h1 : v ≤ 18446744073709551615) (k : Nat) : 0 ≤ shr8 v k ∧ shr8 v k ≤ 18446744073709551615 := by
  induction k with
  | zero => exact ⟨h0, h1⟩
  | succ k ih => rw [shr8_out]; omega
theorem infoB : (Try.prog.info? 5).map (fun i => (i.zero, i.size, i.bytes)) = some (some (.int .u8 0), 1, 1) := by kernel_rfl

/-- The writer in block g holds the bytes bs; nothing but it and new blocks was turned since W. -/
def Wr (W : World) (B g : Nat) (bs : List Int) (w : World) : Prop :=
  ∃ a c, Blk w g 47 #[.slice a bs.length c, .int .i64 0] ∧ w.ownsRow B 5 1 (.slice a bs.length c) bs.length (bs.map byteV) ∧ Below B W w ∧ B ≤ g

theorem Wr.push {W w w2 : World} {B g : Nat} {bs : List Int} {a a2 : Option Addr} {c c2 : Nat} {x : Int} (hb : Blk w g 47 #[.slice a bs.length c, .int .i64 0]) (ho : w.ownsRow B 5 1 (.slice a bs.length c) bs.length (bs.map byteV)) (hB : Below B W w) (hBg : B ≤ g)
    (ho2 : w2.ownsRow B 5 1 (.slice a2 (bs.length + 1) c2) (bs.length + 1) (bs.map byteV ++ [.int .u8 x])) (hg : (w.alloc (.cells #[.int .u8 x] 5)).grownBy w2 (Value.slice a 0 0).ownBlock) :
    Blk w2 g 47 #[.slice a bs.length c, .int .i64 0] ∧ Wr W B g (bs ++ [x]) (w2.setCell ⟨g, 0, none⟩ (.slice a2 (bs.length + 1) c2)) := by
  have hne := own_ne ho hb (by decide)
  rw [own_blk_] at hne
  have hb2 : Blk w2 g 47 #[.slice a bs.length c, .int .i64 0] := (hb.alloc _).grown hg (fun e => hne e.symm)
  have hbl : B ≤ w.heap.size := by have := hb.lt; omega
  have hlow : ∀ k, (Value.slice a 0 0).ownBlock = some k → B ≤ k := fun k hk => (ho.lt k ((own_blk_ _ _ _).trans hk)).1
  have hB2 : Below B W w2 := (hB.alloc hbl _).trans ⟨hg.os, hg.tape, hg.output, hg.size, fun k hk => hg.block k (by simp; omega) (fun e => by have := hlow k e.symm; omega)⟩
  refine ⟨hb2, a2, c2, ?_, ?_, ?_, hBg⟩
  · simpa using hb2.set_ 0 (.slice a2 (bs.length + 1) c2)
  · have := own_keeps ho2 (keep1 w2 g 0 (.slice a2 (bs.length + 1) c2)) (fun k h1 h2 => own_ne ho2 hb2 (by decide) (by rw [h1, show k = g from h2]))
    simpa [byteV] using this
  · exact hB2.setCell hBg _

set_option maxRecDepth 100000 in
set_option maxHeartbeats 800000 in
theorem num4 {W w : World} {B g : Nat} (h : Wr W B g [] w) (v : Int) (h0 : 0 ≤ v) (h1 : v ≤ 4294967295) :
    Calls Try.prog 17 #[.pointer (some ⟨g, 0, none⟩), .int .u64 v, .int .i64 4] w fun e w' => e = .returned (.pointer (some ⟨g, 0, none⟩)) ∧ Wr W B g (lowB v 4) w' := by
  obtain ⟨i0, hi, hz0, hz1, hz2⟩ := info_parts infoB
  have hw := wrong4 v h0 h1 w
  obtain ⟨a, c, hb, ho, hB, hBg⟩ := h
  have hf := fails_ok hb
  go_enter Try.func17, Try.ntmps17
  go_wp2_with (first
    | (go_at_call 31; refine hw.mono ?_; rintro e w' ⟨rfl, rfl⟩)
    | (go_at_call 30; refine hf.mono ?_; rintro e w2 ⟨rfl, hb2, hk2⟩))
  have h2 : Wr W B g [] w2 := ⟨a, c, hb2, own_keeps ho hk2 (fun k h3 h4 => own_ne ho hb (by decide) (by rw [h3, show k = g from h4])), hk2.after hB (fun k hk => by rw [show k = g from hk]; exact hBg) (by have := hb.lt; omega), hBg⟩
  have H2 := Lib.hid h2
  clear hw hb ho hB hf hb2 hk2 h2
  go_loopw [1, 18] (fun x i wr => ∃ k : Nat, k ≤ 4 ∧ i = .int .i64 (k : Int) ∧ x = .int .u64 (shr8 v k) ∧ Wr W B g (lowB v k) wr) (fun _ i _ => 4 - (intOf i).toNat)
  case atStart => exact ⟨0, by omega, rfl, rfl, H2.out⟩
  case round =>
    obtain ⟨k, hk, rfl, rfl, hwr⟩ := hrel
    clear H2
    by_cases hlt : k < 4
    · obtain ⟨a, c, hb, ho, hB, _⟩ := hwr
      have hll := lowB_len v k
      obtain ⟨n, hn⟩ : ∃ n, (lowB v k).length = n := ⟨_, rfl⟩
      rw [hll] at hn
      subst hn
      have hs8 := shr8_b h0 (by omega) k
      have c0 : wr.cell? ⟨g, 0, none⟩ = some (.slice a (lowB v k).length c) := hb.cell 0
      rw [hll] at c0
      have HW := Lib.hid (show Blk wr g 47 #[.slice a (lowB v k).length c, .int .i64 0] ∧ wr.ownsRow B 5 1 (.slice a (lowB v k).length c) (lowB v k).length ((lowB v k).map byteV) ∧ Below B W wr from ⟨hb, ho, hB⟩)
      rw [hll] at ho
      have ho1 := ho.alloc (.cells #[.int .u8 (shr8 v k % 256)] 5)
      have hBw : B ≤ (wr.alloc (.cells #[.int .u8 (shr8 v k % 256)] 5)).heap.size := by have := hb.lt; simp; omega
      have HS := Lib.hid (lowB_snoc v k)
      have HO := Lib.hid (shr8_out v k)
      have HL := Lib.hid hll
      clear hb ho hB hll
      go_wp2_with (at_builtin; refine wpList_append_lie _ rfl _ _ 37 rfl B 5 i0 _ 1 1 Try.underlying37 hi hz0 hz1 hz2 rfl (by decide) a k c ((lowB v k).map byteV) rfl ho1 (some ⟨wr.heap.size, 0, none⟩) 1 1 [.int .u8 (shr8 v k % 256)] rfl (Lies.of_blk (cs := #[.int .u8 (shr8 v k % 256)]) (Blk.new _ _ _)) (by simp [Value.oneCell']) (by unfold maxLen; omega) (by omega) hBw ?_; intro a2 cp2 w2 hown2 hg2 hat2
                   have m2 := Wr.push (x := shr8 v k % 256) (a2 := a2) (c2 := cp2) HW.out.1 HW.out.2.1 HW.out.2.2 hBg (by rw [HL.out]; exact hown2) hg2
                   rw [HL.out, ← HS.out] at m2
                   have M2 := Lib.hid m2
                   have c2 : w2.cell? ⟨g, 0, none⟩ = some (.slice a k c) := m2.1.cell 0
                   have f2 := m2.1.frozen 0
                   clear hown2 hg2 hat2 ho1 m2 c0)
      go_roundw
      case rel => exact ⟨k + 1, by omega, by go_num, by rw [HO.out], M2.out.2⟩
      case measure => simp [intOf]; omega
    · obtain rfl : k = 4 := by omega
      have H := Lib.hid hwr
      clear hwr
      go_wp2
      go_ret
      exact ⟨rfl, H.out⟩
end Go.Proofs.Ytacogpogplionaa.WI
