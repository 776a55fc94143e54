/- super: Put. No condition. -/
import Derived.Test.YtacogpogplionaaSup1
import Derived.Test.YtacogpogplionaaReader
import Derived.Test.YtacogpogplionaaSumSet
namespace Go.Proofs.Ytacogpogplionaa.SU
set_option maxRecDepth 100000
open Go.RowKit Go.Proofs.Ytacogpogplionaa.WI Go.Proofs.Ytacogpogplionaa.SM
set_option linter.unusedVariables false
set_option linter.unusedSimpArgs false

/-- A writer, and a row of numbers beside it. -/
def Wr3 (W : World) (B g gb : Nat) (cs : Array Value) (bs : List Int) (w : World) : Prop := Wr W B g bs w ∧ Blk w gb 3 cs ∧ gb ≠ g
set_option maxRecDepth 100000 in
set_option maxHeartbeats 1600000 in
theorem num_any3 {W w : World} {B g gb : Nat} {cs : Array Value} {bs : List Int} (h : Wr3 W B g gb cs bs w) (hbl : bs.length ≤ 1000000) (v : Int) (h0 : 0 ≤ v) (h1 : v ≤ 18446744073709551615) (n : Nat) (hn8 : n ≤ 8)
    (hw : Calls Try.prog 31 #[.int .u64 v, .int .i64 (n : Int)] w fun e w' => e = .returned (.int .i64 0) ∧ w = w') :
    Calls Try.prog 17 #[.pointer (some ⟨g, 0, none⟩), .int .u64 v, .int .i64 (n : Int)] w fun e w' => e = .returned (.pointer (some ⟨g, 0, none⟩)) ∧ Wr3 W B g gb cs (bs ++ lowB v n) w' := by
  obtain ⟨i0, hi, hz0, hz1, hz2⟩ := info_parts infoB
  obtain ⟨⟨a, c, hb, ho, hB, hBg⟩, hq, hqg⟩ := h
  have hf := fails_ok hb
  go_enter Try.func17, Try.ntmps17
  go_wp2_with (first
    | (go_at_call 31; refine hw.mono ?_; rintro e w' ⟨rfl, rfl⟩)
    | (go_at_call 30; refine hf.mono ?_; rintro e w2 ⟨rfl, hb2, hk2⟩))
  have hq2 : Blk w2 gb 3 cs := hq.keeps hk2 (fun e => hqg e)
  have h2 : Wr3 W B g gb cs (bs ++ lowB v 0) w2 := by
    refine ⟨?_, hq2, hqg⟩
    rw [show bs ++ lowB v 0 = bs from List.append_nil _]
    exact ⟨a, c, hb2, own_keeps ho hk2 (fun k h3 h4 => own_ne ho hb (by decide) (by rw [h3, show k = g from h4])), hk2.after hB (fun k hk => by rw [show k = g from hk]; exact hBg) (by have := hb.lt; omega), hBg⟩
  have H2 := Lib.hid h2
  clear hw hb ho hB hf hb2 hk2 h2 hq hq2
  go_loopw [1, 18] (fun x i wr => ∃ k : Nat, k ≤ n ∧ i = .int .i64 (k : Int) ∧ x = .int .u64 (shr8 v k) ∧ Hid (Wr3 W B g gb cs (bs ++ lowB v k) wr)) (fun _ i _ => n - (intOf i).toNat)
  case atStart => exact ⟨0, by omega, rfl, rfl, H2⟩
  case round =>
    obtain ⟨k, hk, rfl, rfl, hwr⟩ := hrel
    clear H2
    by_cases hlt : k < n
    · obtain ⟨⟨a, c, hb, ho, hB, _⟩, hq, _⟩ := hwr.out
      have HQ := Lib.hid hq
      clear hq
      have hs8 := shr8_b h0 (by omega) k
      have hsn : (bs ++ lowB v k) ++ [shr8 v k % 256] = bs ++ lowB v (k + 1) := by rw [lowB_snoc, List.append_assoc]
      have HS := Lib.hid hsn
      have hll : (bs ++ lowB v k).length ≤ 1000008 := by rw [List.length_append, lowB_len]; omega
      obtain ⟨xs, hxs⟩ : ∃ xs, bs ++ lowB v k = xs := ⟨_, rfl⟩
      rw [hxs] at hb ho hll HS
      obtain ⟨L, hL⟩ : ∃ L, xs.length = L := ⟨_, rfl⟩
      have c0 : wr.cell? ⟨g, 0, none⟩ = some (.slice a xs.length c) := hb.cell 0
      have HW := Lib.hid (show Blk wr g 47 #[.slice a xs.length c, .int .i64 0] ∧ wr.ownsRow B 5 1 (.slice a xs.length c) xs.length (xs.map byteV) ∧ Below B W wr from ⟨hb, ho, hB⟩)
      rw [hL] at ho c0 hll
      have ho1 := ho.alloc (.cells #[.int .u8 (shr8 v k % 256)] 5)
      have hBw : B ≤ (wr.alloc (.cells #[.int .u8 (shr8 v k % 256)] 5)).heap.size := by have := hb.lt; simp; omega
      have HO := Lib.hid (shr8_out v k)
      have HL := Lib.hid hL
      clear hb ho hB hL hxs hsn hwr
      go_wp2_with (at_builtin; refine wpList_append_lie _ rfl _ _ 37 rfl B 5 i0 _ 1 1 Try.underlying37 hi hz0 hz1 hz2 rfl (by decide) a L c (xs.map byteV) rfl ho1 (some ⟨wr.heap.size, 0, none⟩) 1 1 [.int .u8 (shr8 v k % 256)] rfl (Lies.of_blk (cs := #[.int .u8 (shr8 v k % 256)]) (Blk.new _ _ _)) (by simp [Value.oneCell']) (by unfold maxLen; omega) (by omega) hBw ?_; intro a2 cp2 w2 hown2 hg2 hat2
                   have m2 := Wr.push (x := shr8 v k % 256) (a2 := a2) (c2 := cp2) HW.out.1 HW.out.2.1 HW.out.2.2 hBg (by rw [HL.out]; exact hown2) hg2
                   rw [HL.out, HS.out] at m2
                   have hne3 := own_ne HW.out.2.1 HQ.out (by decide)
                   rw [own_blk_] at hne3
                   have q2 : Blk w2 gb 3 cs := (HQ.out.alloc _).grown hg2 (fun e => hne3 e.symm)
                   have q3 := q2.keeps (keep1 w2 g 0 (.slice a2 (L + 1) cp2)) (fun e => hqg e)
                   have M2 : Hid (Wr3 W B g gb cs (bs ++ lowB v (k + 1)) (w2.setCell ⟨g, 0, none⟩ (.slice a2 (L + 1) cp2))) := Lib.hid ⟨m2.2, q3, hqg⟩
                   have c2 : w2.cell? ⟨g, 0, none⟩ = some (.slice a L c) := m2.1.cell 0
                   have f2 := m2.1.frozen 0
                   clear hown2 hg2 hat2 ho1 m2 c0 q2 q3 hne3)
      go_roundw
      case rel => exact ⟨k + 1, by omega, by go_num, by rw [HO.out], M2⟩
      case measure => simp [intOf]; omega
    · obtain rfl : k = n := by omega
      go_wp2
      go_ret
      exact ⟨rfl, hwr.out⟩
def fld (s : Sh) (k : Nat) : Int := [s.n, s.b, s.l, s.c, s.e].getD k 0
def numL (s : Sh) : Nat → List Int
  | 0 => []
  | k + 1 => numL s k ++ lowB (fld s k) 4
theorem numL_len (s : Sh) (k : Nat) : (numL s k).length = 4 * k := by
  induction k with
  | zero => rfl
  | succ k ih => unfold numL; rw [List.length_append, ih, lowB_len]; omega
def superB (s : Sh) : ByteArray := ⟨#[67, 79, 77, 77, 79, 78, 83, 49]⟩ ++ strOfNums (numL s 5)
def superT (s : Sh) : ByteArray := stampT (superB s) 64
theorem superB_size (s : Sh) : (superB s).size = 28 := by
  unfold superB
  rw [ByteArray.size_append, strOf_size, numL_len]
  rfl
theorem fld_ok {s : Sh} (h : Good s) (k : Nat) (hk : k < 5) : 0 ≤ fld s k ∧ fld s k ≤ 4096 := by
  have h1 := h.n; have h2 := h.b; have h3 := h.l; have h4 := h.c; have h5 := h.e
  rcases (by omega : k = 0 ∨ k = 1 ∨ k = 2 ∨ k = 3 ∨ k = 4) with rfl | rfl | rfl | rfl | rfl <;> simp [fld] <;> omega
theorem put_bad (s : Sh) (h : validB s = false) (w : World) : Calls Try.prog 10 #[sagg s] w fun e w' => e = .returned (.tuple #[.string ⟨#[]⟩, .int .i64 1]) ∧ Below w.heap.size w w' := by
  have kv := fun W => valid_any s W
  rw [h] at kv
  unfold sagg at *
  clear h
  go_enter Try.func10, Try.ntmps10
  go_wp2_with (go_at_call 5; refine (kv _).mono ?_; rintro x w1 ⟨rfl, hb1⟩; have HB1 := Lib.hid hb1; clear hb1)
  go_ret2
  exact ⟨rfl, belowThen (belowNew (belowSame w) _) HB1.out⟩
set_option maxHeartbeats 8000000 in
theorem put_ok (s : Sh) (h : Good s) (w : World) : Calls Try.prog 10 #[sagg s] w fun e w' => e = .returned (.tuple #[.string (superT s), .int .i64 0]) ∧ Below w.heap.size w w' := by
  have hv := (valid_iff s).2 h
  have kv := fun W => valid_any s W
  rw [hv] at kv
  have hfk := fun k hk => fld_ok h k hk
  have ks := fun W => stamp_ok (superB s) 64 (by omega) (by omega) (by rw [superB_size]; omega) W
  have hx : superT s = stampT (superB s) 64 := rfl
  rw [hx]
  obtain ⟨T, hT⟩ : ∃ T, stampT (superB s) 64 = T := ⟨_, rfl⟩
  rw [hT] at ks ⊢
  obtain ⟨U, hU⟩ : ∃ U, strOfNums (numL s 5) = U := ⟨_, rfl⟩
  have hUs : U.size = 20 := by rw [← hU, strOf_size, numL_len]
  have hB : superB s = ⟨#[67, 79, 77, 77, 79, 78, 83, 49]⟩ ++ U := by rw [← hU]; rfl
  rw [hB] at ks
  have HU := Lib.hid hU
  have hz3 : ¬ 9223372036854775807 < 8 + U.size := by omega
  have hz2 : ¬ 9223372036854775807 < (⟨#[67, 79, 77, 77, 79, 78, 83, 49]⟩ : ByteArray).size + U.size := by show ¬ _ < 8 + U.size; omega
  have hfs : (List.range 5).map (fld s) = [s.n, s.b, s.l, s.c, s.e] := rfl
  have hcl : ∀ k, k < 5 → (scells s)[k]? = some (.int .i64 (fld s k)) := fun k hk => by
    rcases (by omega : k = 0 ∨ k = 1 ∨ k = 2 ∨ k = 3 ∨ k = 4) with rfl | rfl | rfl | rfl | rfl <;> rfl
  have HFK := Lib.hid hfk
  have HCL := Lib.hid hcl
  have hbn := Blk.new w TSh (scells s)
  have hb0 := (Below.refl _ w).alloc (Nat.le_refl _) (.cells (scells s) TSh)
  have HBN := Lib.hid hbn
  have HB0 := Lib.hid hb0
  clear hbn hb0 hv h hx hT hU hUs hB hfk hcl hfs
  unfold sagg
  go_enter Try.func10, Try.ntmps10
  go_upto_region 4 with (go_at_call 5; refine (kv _).mono ?_; rintro x w1 ⟨rfl, hb1⟩; have HB1 := Lib.hid (HB0.out.trans (hb1.mono HB0.out.size)); have bk := HBN.out.below hb1 HBN.out.lt; have HBK := Lib.hid bk; clear bk hb1)
  have hW := wr_new w1
  have hbk2 := HBK.out.below (belowNew (belowSame w1) (.cells #[.slice none 0 0, .int .i64 0] 47)) HBK.out.lt
  obtain ⟨W2, hW2⟩ : ∃ W2, w1.alloc (.cells #[.slice none 0 0, .int .i64 0] 47) = W2 := ⟨_, rfl⟩
  have hsz : W2.heap.size = w1.heap.size + 1 := by rw [← hW2]; simp
  rw [hW2] at hW hbk2 ⊢
  have c0 : W2.cell? ⟨w.heap.size, 0, none⟩ = some (.int .i64 s.n) := hbk2.cell 0
  have c1 : W2.cell? ⟨w.heap.size, 1, none⟩ = some (.int .i64 s.b) := hbk2.cell 1
  have c2 : W2.cell? ⟨w.heap.size, 2, none⟩ = some (.int .i64 s.l) := hbk2.cell 2
  have c3 : W2.cell? ⟨w.heap.size, 3, none⟩ = some (.int .i64 s.c) := hbk2.cell 3
  have c4 : W2.cell? ⟨w.heap.size, 4, none⟩ = some (.int .i64 s.e) := hbk2.cell 4
  obtain ⟨g, hg⟩ : ∃ g, w1.heap.size = g := ⟨_, rfl⟩
  have H3 : Hid (Wr3 w1 w1.heap.size w1.heap.size (w1.heap.size + 1) (scells s) [] (W2.alloc (.cells (scells s) 3))) := Lib.hid ⟨by
    obtain ⟨a, c, h1, h2, h3, h4⟩ := hW
    exact ⟨a, c, h1.alloc _, h2.alloc _, h3.alloc (by omega) _, h4⟩, hsz ▸ Blk.new W2 3 (scells s), by omega⟩
  rw [hg] at H3 ⊢
  have HG := Lib.hid hg
  have HSZ : Hid (W2.heap.size = g + 1) := Lib.hid (by omega)
  clear hW hbk2 hW2 hsz hg
  go_upto_region 5 with fail
  rw [HSZ.out]
  clear c0 c1 c2 c3 c4
  go_loopw [6, 24] (fun _ i wr => ∃ k : Nat, i = .int .i64 (k : Int) ∧ k ≤ 5 ∧ Hid (Wr3 w1 g g (g + 1) (scells s) (numL s k) wr)) (fun _ i _ => 5 - (intOf i).toNat)
  case atStart => exact ⟨0, rfl, by omega, H3⟩
  case round =>
    obtain ⟨k, rfl, hk, HW⟩ := hrel
    by_cases hlt : k < 5
    · have hfk := HFK.out k hlt
      have hce : wr.cell? ⟨g + 1, k, none⟩ = some (.int .i64 (fld s k)) := by rw [HW.out.2.1.cell]; exact HCL.out k hlt
      have hnl : numL s (k + 1) = numL s k ++ lowB (fld s k) 4 := rfl
      have HNL := Lib.hid hnl
      have e1 : IntKind.i64.wrap ((k : Int) + 1) = (k : Int) + 1 := IntWalk.i64_in _ (by omega)
      have e2 : IntKind.u64.wrap (fld s k) = fld s k := IntWalk.u64_in _ (by omega)
      have kn := fun W (h : Wr3 w1 g g (g + 1) (scells s) (numL s k) W) => num_any3 h (by rw [numL_len]; omega) (fld s k) hfk.1 (by omega) 4 (by omega) (wrong4 (fld s k) hfk.1 (by omega) W)
      clear hnl hfk
      go_wp2_with (go_at_call 17; refine (kn _ HW.out).mono ?_; rintro x w5 ⟨rfl, h5⟩; have HW5 := Lib.hid h5; clear h5)
      go_roundw
      case rel => exact ⟨k + 1, by go_num, by omega, by rw [HNL.out]; exact HW5⟩
      case measure => simp [intOf]; omega
    · obtain rfl : k = 5 := by omega
      have kb := bytes_any HW.out.1 (by rw [numL_len]; omega)
      rw [HU.out] at kb
      have hb5 := HW.out.1.bel
      have HB5 := Lib.hid hb5
      clear hb5 HW
      go_wp2_with (first
        | (go_at_call 18; (with_reducible refine kb.mono ?_); rintro x w6 ⟨rfl, rfl⟩)
        | (go_at_call 19; refine (ks _).mono ?_; rintro x w7 ⟨rfl, h7⟩; have H7 := Lib.hid h7; clear h7))
      go_ret2
      have hA := HB1.out.trans ((show Below w1.heap.size w1 _ from HG.out ▸ HB5.out).mono HB1.out.size)
      exact ⟨rfl, hA.trans (H7.out.mono hA.size)⟩
end Go.Proofs.Ytacogpogplionaa.SU
