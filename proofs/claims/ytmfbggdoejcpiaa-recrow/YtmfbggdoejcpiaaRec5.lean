/- rec: first. No condition. -/
import Derived.Test.YtmfbggdoejcpiaaRec4
namespace Go.Proofs.Ytmfbggdoejcpiaa.RC
open Go.RowKit Go.Proofs.Ytmfbggdoejcpiaa.WI Go.Proofs.Ytmfbggdoejcpiaa.SM
set_option linter.unusedVariables false
set_option linter.unusedSimpArgs false

def U8 (l : List Int) : List UInt8 := l.map fun x => UInt8.ofNat x.toNat
theorem rd_step {X : ByteArray} {v : Int} {k : Nat} {R : List UInt8} (h : X.data.toList = U8 (lowB v k) ++ R) (h0 : 0 ≤ v) (h1 : v < ((256 ^ k : Nat) : Int)) :
    leL (X.extract 0 k).data.toList = v ∧ (X.extract k X.size).data.toList = R ∧ k ≤ X.size := by
  have hl : (U8 (lowB v k)).length = k := by unfold U8; rw [List.length_map, lowB_len]
  have hsz : X.size = k + R.length := by
    show X.data.size = _
    rw [← Array.length_toList, h, List.length_append, hl]
  refine ⟨?_, ?_, by omega⟩
  · rw [ByteArray.data_extract, Array.toList_extract, List.extract_eq_take_drop, h, Nat.sub_zero, List.drop_zero, List.take_left' hl]
    exact le_low v k h0 h1
  · rw [ByteArray.data_extract, Array.toList_extract, List.extract_eq_take_drop, h, List.drop_left' hl, hsz, show k + R.length - k = R.length by omega, List.take_length]
theorem strOf_data (l : List Int) : (strOfNums l).data.toList = U8 l := rfl
theorem U8_app (a b : List Int) : U8 (a ++ b) = U8 a ++ U8 b := List.map_append
theorem app_dat (a b : ByteArray) : (a ++ b).data.toList = a.data.toList ++ b.data.toList := by simp
/-- What a sector's stamp is taken off, it has ahead of it. -/
theorem stamp_front (s : ByteArray) (n m : Nat) (hn : n = m + 4) (h : s.size ≤ m) : (stampT s n).extract 0 m = padT s n := by
  have hp : (padT s n).size = m := by
    unfold padT
    rw [ByteArray.size_append, zerosT_size]; omega
  apply ByteArray.ext
  apply Array.ext'
  unfold stampT
  rw [ByteArray.data_extract, Array.toList_extract, List.extract_eq_take_drop, app_dat, Nat.sub_zero, List.drop_zero, List.take_left' (by rw [Array.length_toList]; exact hp)]
theorem fitsR_stamp (s : ByteArray) (n m : Nat) (hn : n = m + 4) (h : s.size ≤ m) : fitsR (stampT s n) = true := by
  have hp : (padT s n).size = m := by
    unfold padT
    rw [ByteArray.size_append, zerosT_size]; omega
  have hz := stampT_size s n (by omega) (by omega)
  unfold fitsR backT frontT
  rw [hz, show n - 4 = m by omega, stamp_front s n m hn h]
  have hb : (stampT s n).extract m n = fourT (sumT (padT s n)) := by
    apply ByteArray.ext
    apply Array.ext'
    unfold stampT
    rw [ByteArray.data_extract, Array.toList_extract, List.extract_eq_take_drop, app_dat, List.drop_left' (by rw [Array.length_toList]; exact hp)]
    refine List.take_of_length_le ?_
    rw [Array.length_toList]
    show (fourT _).size ≤ _
    rw [fourT_size]; omega
  rw [hb]
  simp
set_option maxHeartbeats 4000000 in
theorem first_bad (b : ByteArray) (h64 : 64 ≤ b.size) (hb : b.size ≤ 1000000) (hf : fitsR (b.extract 0 64) = false) (w : World) :
    Calls Try.prog 22 #[.string b] w fun x w' => x = .returned (.tuple #[.agg #[.int .u64 0, .int .u64 0, .slice none 0 0], .int .i64 0, .int .i64 6]) ∧ Below w.heap.size w w' := by
  have hes : (b.extract 0 64).size = 64 := by rw [ByteArray.size_extract]; omega
  have kr := fun W => read_bad (b.extract 0 64) 60 (by omega) (by omega) hf W
  have h1 : (64 : Int) ≤ (b.size : Int) := by omega
  clear hf hes
  have hbn := Blk.new w 25 #[.int .u64 0, .int .u64 0, .slice none 0 0]
  have hb0 := (Below.refl _ w).alloc (Nat.le_refl _) (.cells #[.int .u64 0, .int .u64 0, .slice none 0 0] 25)
  have HBN := Lib.hid hbn
  have HB0 := Lib.hid hb0
  clear hbn hb0
  go_enter Try.func22, Try.ntmps22
  go_wp2_with (go_at_call 23; refine (kr _).mono ?_; rintro x w1 ⟨rfl, hb1⟩; have br := HBN.out.keeps (Keeps.of_below hb1 (fun _ => False)) (fun h => h); have r0 : w1.cell? ⟨w.heap.size, 0, none⟩ = some (.int .u64 0) := br.cell 0; have r1 : w1.cell? ⟨w.heap.size, 1, none⟩ = some (.int .u64 0) := br.cell 1; have r2 : w1.cell? ⟨w.heap.size, 2, none⟩ = some (.slice none 0 0) := br.cell 2; have f0 := br.frozen 0; have f1 := br.frozen 1; have f2 := br.frozen 2; have HBR := Lib.hid br; have HB1 := Lib.hid hb1; clear hb1 br)
  have b4 := ((HBR.out.set_ 0 (.int .u64 0)).set_ 1 (.int .u64 0)).set_ 2 (.slice none 0 0)
  have d0 : ((((w1.setCell ⟨w.heap.size, 0, none⟩ (.int .u64 0)).setCell ⟨w.heap.size, 1, none⟩ (.int .u64 0)).setCell ⟨w.heap.size, 2, none⟩ (.slice none 0 0))).cell? ⟨w.heap.size, 0, none⟩ = some (.int .u64 0) := b4.cell 0
  have d1 : ((((w1.setCell ⟨w.heap.size, 0, none⟩ (.int .u64 0)).setCell ⟨w.heap.size, 1, none⟩ (.int .u64 0)).setCell ⟨w.heap.size, 2, none⟩ (.slice none 0 0))).cell? ⟨w.heap.size, 1, none⟩ = some (.int .u64 0) := b4.cell 1
  have d2 : ((((w1.setCell ⟨w.heap.size, 0, none⟩ (.int .u64 0)).setCell ⟨w.heap.size, 1, none⟩ (.int .u64 0)).setCell ⟨w.heap.size, 2, none⟩ (.slice none 0 0))).cell? ⟨w.heap.size, 2, none⟩ = some (.slice none 0 0) := b4.cell 2
  have hA := HB0.out.trans (HB1.out.mono HB0.out.size)
  have hE : Below w.heap.size w ((((w1.setCell ⟨w.heap.size, 0, none⟩ (.int .u64 0)).setCell ⟨w.heap.size, 1, none⟩ (.int .u64 0)).setCell ⟨w.heap.size, 2, none⟩ (.slice none 0 0))) := ((hA.setCell (p := ⟨w.heap.size, 0, none⟩) (Nat.le_refl _) _).setCell (p := ⟨w.heap.size, 1, none⟩) (Nat.le_refl _) _).setCell (p := ⟨w.heap.size, 2, none⟩) (Nat.le_refl _) _
  exact bodyPost_ret (v := .tuple #[.agg #[.int .u64 0, .int .u64 0, .slice none 0 0], .int .i64 0, .int .i64 6]) (by simp [results, Try.results22, go_sem, d0, d1, d2]) rfl ⟨rfl, hE⟩
set_option maxHeartbeats 4000000 in
theorem first_ok (b : ByteArray) (h64 : 64 ≤ b.size) (hb : b.size ≤ 1000000) (hf : fitsR (b.extract 0 64) = true) (e l : Int) (n : Nat) (he : 0 < e ∧ e ≤ 18446744073709551615) (hl : 0 < l ∧ l ≤ 18446744073709551615) (hn : 1 ≤ n ∧ n ≤ 60) (R : List UInt8)
    (hR : ((b.extract 0 64).extract 0 60).data.toList = U8 (lowB e 8) ++ (U8 (lowB l 8) ++ (U8 (lowB 0 1) ++ (U8 (lowB n 1) ++ R)))) (w : World) :
    Calls Try.prog 22 #[.string b] w fun x w' => x = .returned (.tuple #[.agg #[.int .u64 e, .int .u64 l, .slice none 0 0], .int .i64 (n : Int), .int .i64 0]) ∧ Below w.heap.size w w' := by
  have hes : (b.extract 0 64).size = 64 := by rw [ByteArray.size_extract]; omega
  have kr := fun W => read_ok (b.extract 0 64) 60 (by omega) (by omega) hf W
  have h1 : (64 : Int) ≤ (b.size : Int) := by omega
  obtain ⟨X, hX⟩ : ∃ X, (b.extract 0 64).extract 0 60 = X := ⟨_, rfl⟩
  have hxs : X.size = 60 := by rw [← hX, ByteArray.size_extract]; omega
  rw [hX] at hR kr
  obtain ⟨a1, a2, a3⟩ := rd_step hR (by omega) (by rw [show (256 : Nat) ^ 8 = 18446744073709551616 from rfl]; omega)
  obtain ⟨X1, hX1⟩ : ∃ X1, X.extract 8 X.size = X1 := ⟨_, rfl⟩
  rw [hX1] at a2
  obtain ⟨b1, b2, b3⟩ := rd_step a2 (by omega) (by rw [show (256 : Nat) ^ 8 = 18446744073709551616 from rfl]; omega)
  obtain ⟨X2, hX2⟩ : ∃ X2, X1.extract 8 X1.size = X2 := ⟨_, rfl⟩
  rw [hX2] at b2
  obtain ⟨c1, c2, c3⟩ := rd_step b2 (by omega) (by decide)
  obtain ⟨X3, hX3⟩ : ∃ X3, X2.extract 1 X2.size = X3 := ⟨_, rfl⟩
  rw [hX3] at c2
  obtain ⟨d1, d2, d3⟩ := rd_step c2 (by omega) (by rw [show (256 : Nat) ^ 1 = 256 from rfl]; omega)
  have z1 : X1.size ≤ 60 := by rw [← hX1, ByteArray.size_extract]; omega
  have z2 : X2.size ≤ 60 := by rw [← hX2, ByteArray.size_extract]; omega
  have z3 : X3.size ≤ 60 := by rw [← hX3, ByteArray.size_extract]; omega
  have kn := fun W => new_reader X (by omega) W
  have q1 : ∀ {W w : World} {B g : Nat}, Rd W B g X w → Calls Try.prog 28 #[.pointer (some ⟨g, 0, none⟩), .int .i64 8] w fun x w' => x = .returned (.int .u64 e) ∧ Rd W B g X1 w' ∧ Keeps (only g) w w' := fun h => by
    have := rnum_8 h a3 (by omega); rwa [a1, hX1] at this
  have q2 : ∀ {W w : World} {B g : Nat}, Rd W B g X1 w → Calls Try.prog 28 #[.pointer (some ⟨g, 0, none⟩), .int .i64 8] w fun x w' => x = .returned (.int .u64 l) ∧ Rd W B g X2 w' ∧ Keeps (only g) w w' := fun h => by
    have := rnum_8 h b3 (by omega); rwa [b1, hX2] at this
  have q3 : ∀ {W w : World} {B g : Nat}, Rd W B g X2 w → Calls Try.prog 28 #[.pointer (some ⟨g, 0, none⟩), .int .i64 1] w fun x w' => x = .returned (.int .u64 0) ∧ Rd W B g X3 w' ∧ Keeps (only g) w w' := fun h => by
    have := rnum_1 h c3 (by omega); rwa [c1, hX3] at this
  have q4 : ∀ {W w : World} {B g : Nat}, Rd W B g X3 w → Calls Try.prog 28 #[.pointer (some ⟨g, 0, none⟩), .int .i64 1] w fun x w' => x = .returned (.int .u64 (n : Int)) ∧ Rd W B g (X3.extract 1 X3.size) w' ∧ Keeps (only g) w w' := fun h => by
    have := rnum_1 h d3 (by omega); rwa [d1] at this
  have ks := fun W => sectors_any (n : Int) W
  rw [secsI_nat hn.1 hn.2] at ks
  have hs0 : ((secsN n : Int) == 0) = false := by unfold secsN; simp; omega
  have n1 : (e == 0) = false := by simp; omega
  have n2 : (l == 0) = false := by simp; omega
  have wn : IntKind.i64.wrap (n : Int) = (n : Int) := IntWalk.i64_in _ (by omega)
  obtain ⟨m, hm⟩ : ∃ m, secsN n = m := ⟨_, rfl⟩
  rw [hm] at ks hs0
  generalize X3.extract 1 X3.size = X4 at q4
  clear hR a1 a2 a3 b1 b2 b3 c1 c2 c3 d1 d2 d3 z1 z2 z3 hX hX1 hX2 hX3 hf hes he hl hm hxs
  have hbn := Blk.new w 25 #[.int .u64 0, .int .u64 0, .slice none 0 0]
  have hb0 := (Below.refl _ w).alloc (Nat.le_refl _) (.cells #[.int .u64 0, .int .u64 0, .slice none 0 0] 25)
  have HBN := Lib.hid hbn
  have HB0 := Lib.hid hb0
  clear hbn hb0
  go_enter Try.func22, Try.ntmps22
  go_wp2_with (first
    | (go_at_call 23; refine (kr _).mono ?_; rintro x w1 ⟨rfl, hb1⟩; have HB1 := Lib.hid hb1; clear hb1)
    | (go_at_call 27; refine (kn _).mono ?_; rintro x w2 ⟨g, rfl, hr2⟩; have R0 := Lib.hid hr2; clear hr2)
    | (go_at_call 28; (with_reducible refine (q1 R0.out).mono ?_); rintro x w3 ⟨rfl, hr3, _⟩; have R1 := Lib.hid hr3; clear hr3 R0)
    | (go_at_call 28; (with_reducible refine (q2 R1.out).mono ?_); rintro x w4 ⟨rfl, hr4, _⟩; have R2 := Lib.hid (hr4.alloc (.cells #[.int .u64 e, .int .u64 l, .slice none 0 0] 25)); have hbx := Blk.new w4 25 #[.int .u64 e, .int .u64 l, .slice none 0 0]; have hgx : ¬ only g w4.heap.size := (fun h => by have h1 : w4.heap.size = g := h; have := hr4.1.lt; omega); have HBX := Lib.hid hbx; have HGX := Lib.hid hgx; clear hr4 R1 hbx hgx)
    | (go_at_call 28; (with_reducible refine (q3 R2.out).mono ?_); rintro x w5 ⟨rfl, hr5, hk5⟩; have R3 := Lib.hid hr5; have HX5 := Lib.hid (HBX.out.keeps hk5 HGX.out); clear hr5 hk5 R2 HBX)
    | (go_at_call 28; (with_reducible refine (q4 R3.out).mono ?_); rintro x w6 ⟨rfl, hr6, hk6⟩; have hx6 := HX5.out.keeps hk6 HGX.out; have x0 : w6.cell? ⟨w4.heap.size, 0, none⟩ = some (.int .u64 e) := hx6.cell 0; have x1 : w6.cell? ⟨w4.heap.size, 1, none⟩ = some (.int .u64 l) := hx6.cell 1; have x2 : w6.cell? ⟨w4.heap.size, 2, none⟩ = some (.slice none 0 0) := hx6.cell 2;
       have hB12 := HB1.out; have hB6 := hB12.trans (hr6.2.1.mono hB12.size); have br := HBN.out.below hB6 HBN.out.lt; have r0 : w6.cell? ⟨w.heap.size, 0, none⟩ = some (.int .u64 0) := br.cell 0; have r1 : w6.cell? ⟨w.heap.size, 1, none⟩ = some (.int .u64 0) := br.cell 1; have r2 : w6.cell? ⟨w.heap.size, 2, none⟩ = some (.slice none 0 0) := br.cell 2; have f0 := br.frozen 0; have f1 := br.frozen 1; have f2 := br.frozen 2; have HBR := Lib.hid br; have HB6 := Lib.hid hB6; clear hr6 hk6 hx6 R3 HX5 hB12 hB6 br)
    | (go_at_call 11; refine (ks _).mono ?_; rintro x w7 ⟨rfl, rfl⟩))
  have b4 := ((HBR.out.set_ 0 (.int .u64 e)).set_ 1 (.int .u64 l)).set_ 2 (.slice none 0 0)
  have d0 : ((((w7.setCell ⟨w.heap.size, 0, none⟩ (.int .u64 e)).setCell ⟨w.heap.size, 1, none⟩ (.int .u64 l)).setCell ⟨w.heap.size, 2, none⟩ (.slice none 0 0))).cell? ⟨w.heap.size, 0, none⟩ = some (.int .u64 e) := b4.cell 0
  have d1 : ((((w7.setCell ⟨w.heap.size, 0, none⟩ (.int .u64 e)).setCell ⟨w.heap.size, 1, none⟩ (.int .u64 l)).setCell ⟨w.heap.size, 2, none⟩ (.slice none 0 0))).cell? ⟨w.heap.size, 1, none⟩ = some (.int .u64 l) := b4.cell 1
  have d2 : ((((w7.setCell ⟨w.heap.size, 0, none⟩ (.int .u64 e)).setCell ⟨w.heap.size, 1, none⟩ (.int .u64 l)).setCell ⟨w.heap.size, 2, none⟩ (.slice none 0 0))).cell? ⟨w.heap.size, 2, none⟩ = some (.slice none 0 0) := b4.cell 2
  have hA := HB0.out.trans (HB6.out.mono HB0.out.size)
  have hE : Below w.heap.size w ((((w7.setCell ⟨w.heap.size, 0, none⟩ (.int .u64 e)).setCell ⟨w.heap.size, 1, none⟩ (.int .u64 l)).setCell ⟨w.heap.size, 2, none⟩ (.slice none 0 0))) := ((hA.setCell (p := ⟨w.heap.size, 0, none⟩) (Nat.le_refl _) _).setCell (p := ⟨w.heap.size, 1, none⟩) (Nat.le_refl _) _).setCell (p := ⟨w.heap.size, 2, none⟩) (Nat.le_refl _) _
  exact bodyPost_ret (v := .tuple #[.agg #[.int .u64 e, .int .u64 l, .slice none 0 0], .int .i64 (n : Int), .int .i64 0]) (by simp [results, Try.results22, go_sem, d0, d1, d2]) rfl ⟨rfl, hE⟩
end Go.Proofs.Ytmfbggdoejcpiaa.RC
