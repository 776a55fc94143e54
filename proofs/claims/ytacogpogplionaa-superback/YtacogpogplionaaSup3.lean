/- super: Get. No condition. -/
import Derived.Test.YtacogpogplionaaSup2
namespace Go.Proofs.Ytacogpogplionaa.SU
set_option maxRecDepth 100000
open Go.RowKit Go.Proofs.Ytacogpogplionaa.WI Go.Proofs.Ytacogpogplionaa.SM
set_option linter.unusedVariables false
set_option linter.unusedSimpArgs false

def U8 (l : List Int) : List UInt8 := l.map fun x => UInt8.ofNat x.toNat
theorem rd_step {X : ByteArray} {v : Int} {k : Nat} {R : List UInt8} (h : X.data.toList = U8 (lowB v k) ++ R) (h0 : 0 ≤ v) (h1 : v < ((256 ^ k : Nat) : Int)) :
    leL (X.extract 0 k).data.toList = v ∧ (X.extract k X.size).data.toList = R ∧ k ≤ X.size := by
  have hl : (U8 (lowB v k)).length = k := by unfold U8; rw [List.length_map, lowB_len]
  have hsz : X.size = k + R.length := by
    show X.data.size = _
    rw [← Array.length_toList, h, List.length_append, hl]
  refine ⟨?_, ?_, by omega⟩
  · rw [ByteArray.data_extract, Array.toList_extract, List.extract_eq_take_drop, h, Nat.sub_zero, List.drop_zero, List.take_left' hl]
    exact le_low v k h0 h1
  · rw [ByteArray.data_extract, Array.toList_extract, List.extract_eq_take_drop, h, List.drop_left' hl, hsz, show k + R.length - k = R.length by omega, List.take_length]
theorem strOf_data (l : List Int) : (strOfNums l).data.toList = U8 l := rfl
theorem U8_app (a b : List Int) : U8 (a ++ b) = U8 a ++ U8 b := List.map_append
theorem app_dat (a b : ByteArray) : (a ++ b).data.toList = a.data.toList ++ b.data.toList := by simp
abbrev TArr : TypeId := 57
def XF (X : ByteArray) : Nat → ByteArray
  | 0 => X
  | k + 1 => (XF X k).extract 4 (XF X k).size
theorem superT_size (s : Sh) : (superT s).size = 64 := (read_stamp (superB s) 64 (by omega) (by rw [superB_size]; omega)).1
theorem superT_fits (s : Sh) : fitsR (superT s) = true := (read_stamp (superB s) 64 (by omega) (by rw [superB_size]; omega)).2.2.1
theorem superT_front (s : Sh) : (superT s).extract 0 60 = padT (superB s) 64 := (read_stamp (superB s) 64 (by omega) (by rw [superB_size]; omega)).2.2.2
theorem super_rest (s : Sh) : ∃ R, (((superT s).extract 0 60).extract 8 60).data.toList = U8 (lowB (fld s 0) 4) ++ (U8 (lowB (fld s 1) 4) ++ (U8 (lowB (fld s 2) 4) ++ (U8 (lowB (fld s 3) 4) ++ (U8 (lowB (fld s 4) 4) ++ R)))) := by
  refine ⟨(zerosT (64 - 4 - (superB s).size)).data.toList, ?_⟩
  rw [superT_front, SM.ext_data]
  have hz : (zerosT (64 - 4 - (superB s).size)).data.toList.length = 32 := by
    have h0 : (zerosT (64 - 4 - (superB s).size)).data.toList.length = (zerosT (64 - 4 - (superB s).size)).size := Array.length_toList
    rw [h0, zerosT_size, superB_size]
  unfold padT
  generalize (zerosT (64 - 4 - (superB s).size)) = Z at *
  have hd0 : (superB s).data.toList = [67, 79, 77, 77, 79, 78, 83, 49] ++ U8 (numL s 5) := by unfold superB; rw [app_dat, strOf_data]
  rw [app_dat, hd0, List.append_assoc]
  have hd : ∀ Y : List UInt8, List.drop 8 ([67, 79, 77, 77, 79, 78, 83, 49] ++ Y) = Y := fun _ => rfl
  have hn : (U8 (numL s 5)).length = 20 := by unfold U8; rw [List.length_map, numL_len]
  rw [hd, List.take_of_length_le (by rw [List.length_append, hn, hz]; omega)]
  show U8 (((((([] : List Int) ++ lowB (fld s 0) 4) ++ lowB (fld s 1) 4) ++ lowB (fld s 2) 4) ++ lowB (fld s 3) 4) ++ lowB (fld s 4) 4) ++ Z.data.toList = _
  rw [U8_app, U8_app, U8_app, U8_app, List.nil_append]
  simp only [List.append_assoc]
theorem steps {s : Sh} (h : Good s) {X : ByteArray} {R : List UInt8} (hs : X.size ≤ 60) (hX : X.data.toList = U8 (lowB (fld s 0) 4) ++ (U8 (lowB (fld s 1) 4) ++ (U8 (lowB (fld s 2) 4) ++ (U8 (lowB (fld s 3) 4) ++ (U8 (lowB (fld s 4) 4) ++ R))))) :
    ∀ k, k < 5 → leL ((XF X k).extract 0 4).data.toList = fld s k ∧ 4 ≤ (XF X k).size ∧ (XF X k).size ≤ 60 := by
  have hb : ∀ k, k < 5 → 0 ≤ fld s k ∧ fld s k < ((256 ^ 4 : Nat) : Int) := fun k hk => by have := fld_ok h k hk; rw [show (256 : Nat) ^ 4 = 4294967296 from rfl]; omega
  obtain ⟨a0, b0, c0⟩ := rd_step hX (hb 0 (by omega)).1 (hb 0 (by omega)).2
  obtain ⟨a1, b1, c1⟩ := rd_step (X := XF X 1) b0 (hb 1 (by omega)).1 (hb 1 (by omega)).2
  obtain ⟨a2, b2, c2⟩ := rd_step (X := XF X 2) b1 (hb 2 (by omega)).1 (hb 2 (by omega)).2
  obtain ⟨a3, b3, c3⟩ := rd_step (X := XF X 3) b2 (hb 3 (by omega)).1 (hb 3 (by omega)).2
  obtain ⟨a4, b4, c4⟩ := rd_step (X := XF X 4) b3 (hb 4 (by omega)).1 (hb 4 (by omega)).2
  have hz : ∀ k, (XF X k).size ≤ 60 := fun k => by
    induction k with
    | zero => exact hs
    | succ k ih => show ((XF X k).extract 4 (XF X k).size).size ≤ 60; rw [ByteArray.size_extract]; omega
  intro k hk
  rcases (by omega : k = 0 ∨ k = 1 ∨ k = 2 ∨ k = 3 ∨ k = 4) with rfl | rfl | rfl | rfl | rfl
  · exact ⟨a0, c0, hz 0⟩
  · exact ⟨a1, c1, hz 1⟩
  · exact ⟨a2, c2, hz 2⟩
  · exact ⟨a3, c3, hz 3⟩
  · exact ⟨a4, c4, hz 4⟩
def arrC (s : Sh) (k : Nat) : Array Value := #[.int .i64 (if 0 < k then fld s 0 else 0), .int .i64 (if 1 < k then fld s 1 else 0), .int .i64 (if 2 < k then fld s 2 else 0), .int .i64 (if 3 < k then fld s 3 else 0), .int .i64 (if 4 < k then fld s 4 else 0)]
theorem arr_set (s : Sh) (k : Nat) (hk : k < 5) : (arrC s k).setIfInBounds k (.int .i64 (fld s k)) = arrC s (k + 1) := by
  rcases (by omega : k = 0 ∨ k = 1 ∨ k = 2 ∨ k = 3 ∨ k = 4) with rfl | rfl | rfl | rfl | rfl <;> rfl
set_option maxHeartbeats 4000000 in
/-- Of one sector that does not fit. -/
theorem get_bad (b : ByteArray) (hsz : b.size = 64) (hf : fitsR b = false) (w : World) :
    Calls Try.prog 11 #[.string b] w fun x w' => x = .returned (.tuple #[sagg ⟨0, 0, 0, 0, 0⟩, .int .i64 6]) ∧ Below w.heap.size w w' := by
  have kr := fun W => read_bad b 60 hsz (by omega) hf W
  have hs64 : (b.size : Int) = 64 := by omega
  clear hf hsz
  unfold sagg
  have hbn := Blk.new w TSh #[.int .i64 0, .int .i64 0, .int .i64 0, .int .i64 0, .int .i64 0]
  have hb0 := (Below.refl _ w).alloc (Nat.le_refl _) (.cells #[.int .i64 0, .int .i64 0, .int .i64 0, .int .i64 0, .int .i64 0] TSh)
  obtain ⟨W0, hW0⟩ : ∃ W0, w.alloc (.cells #[.int .i64 0, .int .i64 0, .int .i64 0, .int .i64 0, .int .i64 0] TSh) = W0 := ⟨_, rfl⟩
  rw [hW0] at hbn hb0
  obtain ⟨r0, hr0⟩ : ∃ r, w.heap.size = r := ⟨_, rfl⟩
  rw [hr0] at hbn
  have HW0 := Lib.hid hW0
  have HR0 := Lib.hid hr0
  have HBN := Lib.hid hbn
  have HB0 := Lib.hid hb0
  clear hbn hb0 hW0 hr0
  go_enter Try.func11, Try.ntmps11
  go_upto_region 1 with fail
  rw [show w.alloc (.cells #[.int .i64 0, .int .i64 0, .int .i64 0, .int .i64 0, .int .i64 0] TSh) = W0 from HW0.out, HR0.out]
  go_wp2_with (go_at_call 20; refine (kr _).mono ?_; rintro x w1 ⟨rfl, hb1⟩; have br := HBN.out.below hb1 HBN.out.lt; have y0 : w1.cell? ⟨r0, 0, none⟩ = some (.int .i64 0) := br.cell 0; have f0 := br.frozen 0; have y1 : w1.cell? ⟨r0, 1, none⟩ = some (.int .i64 0) := br.cell 1; have f1 := br.frozen 1; have y2 : w1.cell? ⟨r0, 2, none⟩ = some (.int .i64 0) := br.cell 2; have f2 := br.frozen 2; have y3 : w1.cell? ⟨r0, 3, none⟩ = some (.int .i64 0) := br.cell 3; have f3 := br.frozen 3; have y4 : w1.cell? ⟨r0, 4, none⟩ = some (.int .i64 0) := br.cell 4; have f4 := br.frozen 4; have HBR := Lib.hid br; have HB1 := Lib.hid hb1; clear hb1 br)
  have b4 := (((((HBR.out.set_ 0 (.int .i64 0)).set_ 1 (.int .i64 0)).set_ 2 (.int .i64 0)).set_ 3 (.int .i64 0)).set_ 4 (.int .i64 0))
  have hr0 : w.heap.size ≤ r0 := by rw [HR0.out]; exact Nat.le_refl _
  have hA : Below w.heap.size w w1 := HB0.out.trans (HB1.out.mono HB0.out.size)
  have hE : Below w.heap.size w (((((w1.setCell ⟨r0, 0, none⟩ (.int .i64 0)).setCell ⟨r0, 1, none⟩ (.int .i64 0)).setCell ⟨r0, 2, none⟩ (.int .i64 0)).setCell ⟨r0, 3, none⟩ (.int .i64 0)).setCell ⟨r0, 4, none⟩ (.int .i64 0)) := (((((hA.setCell (p := ⟨r0, 0, none⟩) hr0 (.int .i64 0)).setCell (p := ⟨r0, 1, none⟩) hr0 (.int .i64 0)).setCell (p := ⟨r0, 2, none⟩) hr0 (.int .i64 0)).setCell (p := ⟨r0, 3, none⟩) hr0 (.int .i64 0)).setCell (p := ⟨r0, 4, none⟩) hr0 (.int .i64 0))
  have d0 : (((((w1.setCell ⟨r0, 0, none⟩ (.int .i64 0)).setCell ⟨r0, 1, none⟩ (.int .i64 0)).setCell ⟨r0, 2, none⟩ (.int .i64 0)).setCell ⟨r0, 3, none⟩ (.int .i64 0)).setCell ⟨r0, 4, none⟩ (.int .i64 0)).cell? ⟨r0, 0, none⟩ = some (.int .i64 0) := b4.cell 0
  have d1 : (((((w1.setCell ⟨r0, 0, none⟩ (.int .i64 0)).setCell ⟨r0, 1, none⟩ (.int .i64 0)).setCell ⟨r0, 2, none⟩ (.int .i64 0)).setCell ⟨r0, 3, none⟩ (.int .i64 0)).setCell ⟨r0, 4, none⟩ (.int .i64 0)).cell? ⟨r0, 1, none⟩ = some (.int .i64 0) := b4.cell 1
  have d2 : (((((w1.setCell ⟨r0, 0, none⟩ (.int .i64 0)).setCell ⟨r0, 1, none⟩ (.int .i64 0)).setCell ⟨r0, 2, none⟩ (.int .i64 0)).setCell ⟨r0, 3, none⟩ (.int .i64 0)).setCell ⟨r0, 4, none⟩ (.int .i64 0)).cell? ⟨r0, 2, none⟩ = some (.int .i64 0) := b4.cell 2
  have d3 : (((((w1.setCell ⟨r0, 0, none⟩ (.int .i64 0)).setCell ⟨r0, 1, none⟩ (.int .i64 0)).setCell ⟨r0, 2, none⟩ (.int .i64 0)).setCell ⟨r0, 3, none⟩ (.int .i64 0)).setCell ⟨r0, 4, none⟩ (.int .i64 0)).cell? ⟨r0, 3, none⟩ = some (.int .i64 0) := b4.cell 3
  have d4 : (((((w1.setCell ⟨r0, 0, none⟩ (.int .i64 0)).setCell ⟨r0, 1, none⟩ (.int .i64 0)).setCell ⟨r0, 2, none⟩ (.int .i64 0)).setCell ⟨r0, 3, none⟩ (.int .i64 0)).setCell ⟨r0, 4, none⟩ (.int .i64 0)).cell? ⟨r0, 4, none⟩ = some (.int .i64 0) := b4.cell 4
  exact bodyPost_ret (v := .tuple #[.agg #[.int .i64 0, .int .i64 0, .int .i64 0, .int .i64 0, .int .i64 0], .int .i64 6]) (by simp [results, Try.results11, go_sem, d0, d1, d2, d3, d4]) rfl ⟨rfl, hE⟩
set_option maxHeartbeats 4000000 in
/-- Of what is no sector. -/
theorem get_size (b : ByteArray) (hsz : b.size ≠ 64) (w : World) :
    Calls Try.prog 11 #[.string b] w fun x w' => x = .returned (.tuple #[sagg ⟨0, 0, 0, 0, 0⟩, .int .i64 5]) ∧ Below w.heap.size w w' := by
  have hs64 : ((b.size : Int) == 64) = false := by rw [beq_eq_false_iff_ne]; omega
  clear hsz
  unfold sagg
  have hbn := Blk.new w TSh #[.int .i64 0, .int .i64 0, .int .i64 0, .int .i64 0, .int .i64 0]
  have hb0 := (Below.refl _ w).alloc (Nat.le_refl _) (.cells #[.int .i64 0, .int .i64 0, .int .i64 0, .int .i64 0, .int .i64 0] TSh)
  obtain ⟨W0, hW0⟩ : ∃ W0, w.alloc (.cells #[.int .i64 0, .int .i64 0, .int .i64 0, .int .i64 0, .int .i64 0] TSh) = W0 := ⟨_, rfl⟩
  rw [hW0] at hbn hb0
  obtain ⟨r0, hr0⟩ : ∃ r, w.heap.size = r := ⟨_, rfl⟩
  rw [hr0] at hbn
  have HW0 := Lib.hid hW0
  have HR0 := Lib.hid hr0
  have HBN := Lib.hid hbn
  have HB0 := Lib.hid hb0
  clear hbn hb0 hW0 hr0
  go_enter Try.func11, Try.ntmps11
  go_upto_region 1 with fail
  rw [show w.alloc (.cells #[.int .i64 0, .int .i64 0, .int .i64 0, .int .i64 0, .int .i64 0] TSh) = W0 from HW0.out, HR0.out]
  have HBR := HBN
  have br := HBN.out
  have y0 : W0.cell? ⟨r0, 0, none⟩ = some (.int .i64 0) := br.cell 0
  have f0 := br.frozen 0
  have y1 : W0.cell? ⟨r0, 1, none⟩ = some (.int .i64 0) := br.cell 1
  have f1 := br.frozen 1
  have y2 : W0.cell? ⟨r0, 2, none⟩ = some (.int .i64 0) := br.cell 2
  have f2 := br.frozen 2
  have y3 : W0.cell? ⟨r0, 3, none⟩ = some (.int .i64 0) := br.cell 3
  have f3 := br.frozen 3
  have y4 : W0.cell? ⟨r0, 4, none⟩ = some (.int .i64 0) := br.cell 4
  have f4 := br.frozen 4
  clear br
  go_wp2_with fail
  have b4 := (((((HBR.out.set_ 0 (.int .i64 0)).set_ 1 (.int .i64 0)).set_ 2 (.int .i64 0)).set_ 3 (.int .i64 0)).set_ 4 (.int .i64 0))
  have hr0 : w.heap.size ≤ r0 := by rw [HR0.out]; exact Nat.le_refl _
  have hA : Below w.heap.size w W0 := HB0.out
  have hE : Below w.heap.size w (((((W0.setCell ⟨r0, 0, none⟩ (.int .i64 0)).setCell ⟨r0, 1, none⟩ (.int .i64 0)).setCell ⟨r0, 2, none⟩ (.int .i64 0)).setCell ⟨r0, 3, none⟩ (.int .i64 0)).setCell ⟨r0, 4, none⟩ (.int .i64 0)) := (((((hA.setCell (p := ⟨r0, 0, none⟩) hr0 (.int .i64 0)).setCell (p := ⟨r0, 1, none⟩) hr0 (.int .i64 0)).setCell (p := ⟨r0, 2, none⟩) hr0 (.int .i64 0)).setCell (p := ⟨r0, 3, none⟩) hr0 (.int .i64 0)).setCell (p := ⟨r0, 4, none⟩) hr0 (.int .i64 0))
  have d0 : (((((W0.setCell ⟨r0, 0, none⟩ (.int .i64 0)).setCell ⟨r0, 1, none⟩ (.int .i64 0)).setCell ⟨r0, 2, none⟩ (.int .i64 0)).setCell ⟨r0, 3, none⟩ (.int .i64 0)).setCell ⟨r0, 4, none⟩ (.int .i64 0)).cell? ⟨r0, 0, none⟩ = some (.int .i64 0) := b4.cell 0
  have d1 : (((((W0.setCell ⟨r0, 0, none⟩ (.int .i64 0)).setCell ⟨r0, 1, none⟩ (.int .i64 0)).setCell ⟨r0, 2, none⟩ (.int .i64 0)).setCell ⟨r0, 3, none⟩ (.int .i64 0)).setCell ⟨r0, 4, none⟩ (.int .i64 0)).cell? ⟨r0, 1, none⟩ = some (.int .i64 0) := b4.cell 1
  have d2 : (((((W0.setCell ⟨r0, 0, none⟩ (.int .i64 0)).setCell ⟨r0, 1, none⟩ (.int .i64 0)).setCell ⟨r0, 2, none⟩ (.int .i64 0)).setCell ⟨r0, 3, none⟩ (.int .i64 0)).setCell ⟨r0, 4, none⟩ (.int .i64 0)).cell? ⟨r0, 2, none⟩ = some (.int .i64 0) := b4.cell 2
  have d3 : (((((W0.setCell ⟨r0, 0, none⟩ (.int .i64 0)).setCell ⟨r0, 1, none⟩ (.int .i64 0)).setCell ⟨r0, 2, none⟩ (.int .i64 0)).setCell ⟨r0, 3, none⟩ (.int .i64 0)).setCell ⟨r0, 4, none⟩ (.int .i64 0)).cell? ⟨r0, 3, none⟩ = some (.int .i64 0) := b4.cell 3
  have d4 : (((((W0.setCell ⟨r0, 0, none⟩ (.int .i64 0)).setCell ⟨r0, 1, none⟩ (.int .i64 0)).setCell ⟨r0, 2, none⟩ (.int .i64 0)).setCell ⟨r0, 3, none⟩ (.int .i64 0)).setCell ⟨r0, 4, none⟩ (.int .i64 0)).cell? ⟨r0, 4, none⟩ = some (.int .i64 0) := b4.cell 4
  exact bodyPost_ret (v := .tuple #[.agg #[.int .i64 0, .int .i64 0, .int .i64 0, .int .i64 0, .int .i64 0], .int .i64 5]) (by simp [results, Try.results11, go_sem, d0, d1, d2, d3, d4]) rfl ⟨rfl, hE⟩
set_option maxHeartbeats 8000000 in
theorem get_ok (s : Sh) (h : Good s) (w : World) :
    Calls Try.prog 11 #[.string (superT s)] w fun x w' => x = .returned (.tuple #[sagg s, .int .i64 0]) ∧ Below w.heap.size w w' := by
  have hsz := superT_size s
  have kr := fun W => read_ok (superT s) 60 hsz (by omega) (superT_fits s) W
  have kp := fun W => put_ok s h W
  obtain ⟨R, hR⟩ := super_rest s
  obtain ⟨T, hT⟩ : ∃ T, superT s = T := ⟨_, rfl⟩
  rw [hT] at kr kp hsz hR ⊢
  obtain ⟨F, hF⟩ : ∃ F, T.extract 0 60 = F := ⟨_, rfl⟩
  have hfs : F.size = 60 := by rw [← hF, ByteArray.size_extract]; omega
  rw [hF] at kr hR
  obtain ⟨X, hX⟩ : ∃ X, F.extract 8 F.size = X := ⟨_, rfl⟩
  have hxs : X.size = 52 := by rw [← hX, ByteArray.size_extract]; omega
  rw [show (60 : Nat) = F.size from hfs.symm, hX] at hR
  have h8 : (8 : Int) ≤ (F.size : Int) := by omega
  have hst := steps h (by omega) hR
  have hfk := fun k hk => fld_ok h k hk
  have kn := fun W => new_reader X (by omega) W
  have hs64 : (T.size : Int) = 64 := by omega
  have HST := Lib.hid hst
  have HFK := Lib.hid hfk
  unfold sagg at *
  clear hR h hxs hF hT hfs hsz hst hfk
  have hbn := Blk.new w TSh #[.int .i64 0, .int .i64 0, .int .i64 0, .int .i64 0, .int .i64 0]
  have hb0 := (Below.refl _ w).alloc (Nat.le_refl _) (.cells #[.int .i64 0, .int .i64 0, .int .i64 0, .int .i64 0, .int .i64 0] TSh)
  obtain ⟨W0, hW0⟩ : ∃ W0, w.alloc (.cells #[.int .i64 0, .int .i64 0, .int .i64 0, .int .i64 0, .int .i64 0] TSh) = W0 := ⟨_, rfl⟩
  rw [hW0] at hbn hb0
  obtain ⟨r0, hr0⟩ : ∃ r, w.heap.size = r := ⟨_, rfl⟩
  rw [hr0] at hbn
  have HW0 := Lib.hid hW0
  have HR0 := Lib.hid hr0
  have HBN := Lib.hid hbn
  have HB0 := Lib.hid hb0
  clear hbn hb0 hW0 hr0
  go_enter Try.func11, Try.ntmps11
  go_upto_region 1 with fail
  rw [show w.alloc (.cells #[.int .i64 0, .int .i64 0, .int .i64 0, .int .i64 0, .int .i64 0] TSh) = W0 from HW0.out, HR0.out]
  go_upto_region 9 with (first
    | (go_at_call 20; refine (kr _).mono ?_; rintro x w1 ⟨rfl, hb1⟩; have HB1 := Lib.hid hb1; clear hb1)
    | (go_at_call 21; refine (kn _).mono ?_; rintro x w2 ⟨g, rfl, hr2⟩; have R0 := Lib.hid hr2; clear hr2))
  have hbA := Blk.new w2 TArr (arrC s 0)
  have hR1 := R0.out.alloc (.cells (arrC s 0) TArr)
  have hgl : g < w2.heap.size := R0.out.1.lt
  have hwl : w1.heap.size ≤ w2.heap.size := R0.out.2.1.size
  obtain ⟨la, hla⟩ : ∃ la, w2.heap.size = la := ⟨_, rfl⟩
  have H3 : Hid (Rd w1 w1.heap.size g (XF X 0) (w2.alloc (.cells (arrC s 0) TArr)) ∧ Blk (w2.alloc (.cells (arrC s 0) TArr)) la TArr (arrC s 0)) := Lib.hid ⟨hR1, hla ▸ hbA⟩
  rw [hla] at hgl hwl ⊢
  have hne : ¬ only g la := fun e => by have h1 : la = g := e; omega
  have HNE := Lib.hid hne
  have HGL := Lib.hid hgl
  have HWL := Lib.hid hwl
  clear hbA hR1 hgl hwl hla hne R0
  go_loopw [8, 28] (fun _ i wr => ∃ k : Nat, i = .int .i64 (k : Int) ∧ k ≤ 5 ∧ Hid (Rd w1 w1.heap.size g (XF X k) wr ∧ Blk wr la TArr (arrC s k))) (fun _ i _ => 5 - (intOf i).toNat)
  case atStart => exact ⟨0, rfl, by omega, H3⟩
  case round =>
    obtain ⟨k, rfl, hk, HW⟩ := hrel
    by_cases hlt : k < 5
    · obtain ⟨s1, s2, s3⟩ := HST.out k hlt
      have hfk := HFK.out k hlt
      have e1 : IntKind.i64.wrap ((k : Int) + 1) = (k : Int) + 1 := IntWalk.i64_in _ (by omega)
      have e2 : IntKind.i64.wrap (fld s k) = fld s k := IntWalk.i64_in _ (by omega)
      have hk5 : (k : Int) < 5 := by omega
      have kq := rnum_4 HW.out.1 s2 (by omega)
      rw [s1] at kq
      have hck : (arrC s k)[k]? = some (.int .i64 0) := by
        rcases (by omega : k = 0 ∨ k = 1 ∨ k = 2 ∨ k = 3 ∨ k = 4) with rfl | rfl | rfl | rfl | rfl <;> rfl
      have HCK := Lib.hid hck
      have HAS := Lib.hid (arr_set s k hlt)
      clear s1 s2 s3 hck hfk
      go_wp2_with (go_at_call 22; refine kq.mono ?_; rintro x w5 ⟨rfl, h5, hk5'⟩; have ha5 := HW.out.2.keeps hk5' HNE.out; have ca : w5.cell? ⟨la, k, none⟩ = some (.int .i64 0) := (ha5.cell k).trans HCK.out; have fa := ha5.frozen k; have H5 := Lib.hid h5; have HA5 := Lib.hid ha5; clear h5 hk5' ha5)
      have h6 : Rd w1 w1.heap.size g (XF X (k + 1)) (w5.setCell ⟨la, k, none⟩ (.int .i64 (fld s k))) := ⟨H5.out.1.keeps (keep1 w5 la k _) (fun e => by have h1 : g = la := e; have := HGL.out; omega), H5.out.2.1.setCell (p := ⟨la, k, none⟩) HWL.out _, H5.out.2.2⟩
      have h7 := HA5.out.set_ k (.int .i64 (fld s k))
      rw [HAS.out] at h7
      have H67 := Lib.hid (And.intro h6 h7)
      clear h6 h7
      go_roundw
      case rel => exact ⟨k + 1, by go_num, by omega, H67⟩
      case measure => simp [intOf]; omega
    · obtain rfl : k = 5 := by omega
      have l0 : wr.cell? ⟨la, 0, none⟩ = some (.int .i64 s.n) := HW.out.2.cell 0
      have l1 : wr.cell? ⟨la, 1, none⟩ = some (.int .i64 s.b) := HW.out.2.cell 1
      have l2 : wr.cell? ⟨la, 2, none⟩ = some (.int .i64 s.l) := HW.out.2.cell 2
      have l3 : wr.cell? ⟨la, 3, none⟩ = some (.int .i64 s.c) := HW.out.2.cell 3
      have l4 : wr.cell? ⟨la, 4, none⟩ = some (.int .i64 s.e) := HW.out.2.cell 4
      have hb5 := HB1.out.trans (HW.out.1.2.1.mono HB1.out.size)
      have HB5 := Lib.hid hb5
      clear hb5
      go_wp2_with (go_at_call 10; refine (kp _).mono ?_; rintro x w6 ⟨rfl, hb6⟩; have bx := (Blk.new wr TSh (scells s)).below hb6 (Blk.new wr TSh (scells s)).lt; have x0 : w6.cell? ⟨wr.heap.size, 0, none⟩ = some (.int .i64 s.n) := bx.cell 0; have x1 : w6.cell? ⟨wr.heap.size, 1, none⟩ = some (.int .i64 s.b) := bx.cell 1; have x2 : w6.cell? ⟨wr.heap.size, 2, none⟩ = some (.int .i64 s.l) := bx.cell 2; have x3 : w6.cell? ⟨wr.heap.size, 3, none⟩ = some (.int .i64 s.c) := bx.cell 3; have x4 : w6.cell? ⟨wr.heap.size, 4, none⟩ = some (.int .i64 s.e) := bx.cell 4; have hb66 := (HB5.out.alloc HB5.out.size (.cells (scells s) TSh)).trans (hb6.mono (HB5.out.alloc HB5.out.size _).size); have br := HBN.out.below hb66 HBN.out.lt; have y0 : w6.cell? ⟨r0, 0, none⟩ = some (.int .i64 0) := br.cell 0; have f0 := br.frozen 0; have y1 : w6.cell? ⟨r0, 1, none⟩ = some (.int .i64 0) := br.cell 1; have f1 := br.frozen 1; have y2 : w6.cell? ⟨r0, 2, none⟩ = some (.int .i64 0) := br.cell 2; have f2 := br.frozen 2; have y3 : w6.cell? ⟨r0, 3, none⟩ = some (.int .i64 0) := br.cell 3; have f3 := br.frozen 3; have y4 : w6.cell? ⟨r0, 4, none⟩ = some (.int .i64 0) := br.cell 4; have f4 := br.frozen 4; have HBR := Lib.hid br; have HB6 := Lib.hid hb66; clear hb6 hb66 br bx)
      have b4 := (((((HBR.out.set_ 0 (.int .i64 s.n)).set_ 1 (.int .i64 s.b)).set_ 2 (.int .i64 s.l)).set_ 3 (.int .i64 s.c)).set_ 4 (.int .i64 s.e))
      have hr0 : w.heap.size ≤ r0 := by rw [HR0.out]; exact Nat.le_refl _
      have hA : Below w.heap.size w w6 := HB0.out.trans (HB6.out.mono HB0.out.size)
      have hE : Below w.heap.size w (((((w6.setCell ⟨r0, 0, none⟩ (.int .i64 s.n)).setCell ⟨r0, 1, none⟩ (.int .i64 s.b)).setCell ⟨r0, 2, none⟩ (.int .i64 s.l)).setCell ⟨r0, 3, none⟩ (.int .i64 s.c)).setCell ⟨r0, 4, none⟩ (.int .i64 s.e)) := (((((hA.setCell (p := ⟨r0, 0, none⟩) hr0 (.int .i64 s.n)).setCell (p := ⟨r0, 1, none⟩) hr0 (.int .i64 s.b)).setCell (p := ⟨r0, 2, none⟩) hr0 (.int .i64 s.l)).setCell (p := ⟨r0, 3, none⟩) hr0 (.int .i64 s.c)).setCell (p := ⟨r0, 4, none⟩) hr0 (.int .i64 s.e))
      have d0 : (((((w6.setCell ⟨r0, 0, none⟩ (.int .i64 s.n)).setCell ⟨r0, 1, none⟩ (.int .i64 s.b)).setCell ⟨r0, 2, none⟩ (.int .i64 s.l)).setCell ⟨r0, 3, none⟩ (.int .i64 s.c)).setCell ⟨r0, 4, none⟩ (.int .i64 s.e)).cell? ⟨r0, 0, none⟩ = some (.int .i64 s.n) := b4.cell 0
      have d1 : (((((w6.setCell ⟨r0, 0, none⟩ (.int .i64 s.n)).setCell ⟨r0, 1, none⟩ (.int .i64 s.b)).setCell ⟨r0, 2, none⟩ (.int .i64 s.l)).setCell ⟨r0, 3, none⟩ (.int .i64 s.c)).setCell ⟨r0, 4, none⟩ (.int .i64 s.e)).cell? ⟨r0, 1, none⟩ = some (.int .i64 s.b) := b4.cell 1
      have d2 : (((((w6.setCell ⟨r0, 0, none⟩ (.int .i64 s.n)).setCell ⟨r0, 1, none⟩ (.int .i64 s.b)).setCell ⟨r0, 2, none⟩ (.int .i64 s.l)).setCell ⟨r0, 3, none⟩ (.int .i64 s.c)).setCell ⟨r0, 4, none⟩ (.int .i64 s.e)).cell? ⟨r0, 2, none⟩ = some (.int .i64 s.l) := b4.cell 2
      have d3 : (((((w6.setCell ⟨r0, 0, none⟩ (.int .i64 s.n)).setCell ⟨r0, 1, none⟩ (.int .i64 s.b)).setCell ⟨r0, 2, none⟩ (.int .i64 s.l)).setCell ⟨r0, 3, none⟩ (.int .i64 s.c)).setCell ⟨r0, 4, none⟩ (.int .i64 s.e)).cell? ⟨r0, 3, none⟩ = some (.int .i64 s.c) := b4.cell 3
      have d4 : (((((w6.setCell ⟨r0, 0, none⟩ (.int .i64 s.n)).setCell ⟨r0, 1, none⟩ (.int .i64 s.b)).setCell ⟨r0, 2, none⟩ (.int .i64 s.l)).setCell ⟨r0, 3, none⟩ (.int .i64 s.c)).setCell ⟨r0, 4, none⟩ (.int .i64 s.e)).cell? ⟨r0, 4, none⟩ = some (.int .i64 s.e) := b4.cell 4
      exact bodyPost_ret (v := .tuple #[.agg #[.int .i64 s.n, .int .i64 s.b, .int .i64 s.l, .int .i64 s.c, .int .i64 s.e], .int .i64 0]) (by simp [results, Try.results11, go_sem, d0, d1, d2, d3, d4]) rfl ⟨rfl, hE⟩
end Go.Proofs.Ytacogpogplionaa.SU
