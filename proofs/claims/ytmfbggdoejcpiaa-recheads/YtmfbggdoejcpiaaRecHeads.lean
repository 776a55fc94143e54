/- RecHeads: the walk. No condition. -/
import Derived.Test.YtmfbggdoejcpiaaRecIn
import Derived.Laws.StructEq
namespace Go.Proofs.Ytmfbggdoejcpiaa.recHeads
open Go.RowKit Go.Proofs.Ytmfbggdoejcpiaa.SM Go.Proofs.Ytmfbggdoejcpiaa.RC
set_option linter.unusedVariables false
set_option linter.unusedSimpArgs false

set_option maxHeartbeats 8000000 in
theorem bad (e l a p q : Int) (w : World) (h0 : HeadOk e l a) (hbad : ¬ (0 < e ∧ 0 < l ∧ 0 ≤ a ∧ a ≤ 256)) :
    Calls Try.prog 5 #[.agg #[.int .u64 e, .int .u64 l, .int .i64 a], .int .i64 p, .int .i64 q] w fun e w' => e = .returned (.bool true) ∧ Below w.heap.size w w' := by
  have he := h0.e
  have hl := h0.l
  have ka := fun W => RC.alive_any W
  have kp := fun W => put_head_bad e l a hbad he.1 hl.1 W
  have hbn := Blk.new w 39 #[.int .u64 e, .int .u64 l, .int .i64 a]
  have hb0 := (Below.refl _ w).alloc (Nat.le_refl _) (.cells #[.int .u64 e, .int .u64 l, .int .i64 a] 39)
  obtain ⟨W0, hW0⟩ : ∃ W0, w.alloc (.cells #[.int .u64 e, .int .u64 l, .int .i64 a] 39) = W0 := ⟨_, rfl⟩
  rw [hW0] at hbn hb0
  have c0 : W0.cell? ⟨w.heap.size, 0, none⟩ = some (.int .u64 e) := hbn.cell 0
  have c1 : W0.cell? ⟨w.heap.size, 1, none⟩ = some (.int .u64 l) := hbn.cell 1
  have c2 : W0.cell? ⟨w.heap.size, 2, none⟩ = some (.int .i64 a) := hbn.cell 2
  have HBN := Lib.hid hbn
  have HB0 := Lib.hid hb0
  have HW0 := Lib.hid hW0
  clear hbn hb0 hW0
  by_cases a1 : e = 0
  · have n1 : (e == 0) = true := by simp [a1]
    clear hbad he hl a1
    go_enter Try.func5, Try.ntmps5
    go_upto_region 1 with fail
    rw [HW0.out]
    go_wp2_with (first
      | (go_at_call 14; refine (kp _).mono ?_; rintro x w1 ⟨rfl, hb1⟩; have B1 := Lib.hid hb1; clear hb1)
      | (go_at_call 8; refine (ka _).mono ?_; rintro x w2 ⟨rfl, hb2⟩; have hb := belowThen B1.out hb2; have b2 := HBN.out.below hb HBN.out.lt; have r0 : w2.cell? ⟨w.heap.size, 0, none⟩ = some (.int .u64 e) := b2.cell 0; have r1 : w2.cell? ⟨w.heap.size, 1, none⟩ = some (.int .u64 l) := b2.cell 1; have r2 : w2.cell? ⟨w.heap.size, 2, none⟩ = some (.int .i64 a) := b2.cell 2; have HB := Lib.hid (HB0.out.trans (hb.mono HB0.out.size)); clear hb2 hb b2))
    exact end_ret (t := 6) (v := .bool true) (by kernel_rfl) rfl rfl ⟨rfl, HB.out⟩
  have n1 : (e == 0) = false := by simpa using a1
  by_cases a2 : l = 0
  · have n2 : (l == 0) = true := by simp [a2]
    clear hbad he hl a1 a2
    go_enter Try.func5, Try.ntmps5
    go_upto_region 1 with fail
    rw [HW0.out]
    go_wp2_with (first
      | (go_at_call 14; refine (kp _).mono ?_; rintro x w1 ⟨rfl, hb1⟩; have B1 := Lib.hid hb1; clear hb1)
      | (go_at_call 8; refine (ka _).mono ?_; rintro x w2 ⟨rfl, hb2⟩; have hb := belowThen B1.out hb2; have b2 := HBN.out.below hb HBN.out.lt; have r0 : w2.cell? ⟨w.heap.size, 0, none⟩ = some (.int .u64 e) := b2.cell 0; have r1 : w2.cell? ⟨w.heap.size, 1, none⟩ = some (.int .u64 l) := b2.cell 1; have r2 : w2.cell? ⟨w.heap.size, 2, none⟩ = some (.int .i64 a) := b2.cell 2; have HB := Lib.hid (HB0.out.trans (hb.mono HB0.out.size)); clear hb2 hb b2))
    exact end_ret (t := 6) (v := .bool true) (by kernel_rfl) rfl rfl ⟨rfl, HB.out⟩
  have n2 : (l == 0) = false := by simpa using a2
  by_cases a3 : a < 0
  · have n3 : decide (a < 0) = true := by simpa using a3
    clear hbad he hl a1 a2 a3
    go_enter Try.func5, Try.ntmps5
    go_upto_region 1 with fail
    rw [HW0.out]
    go_wp2_with (first
      | (go_at_call 14; refine (kp _).mono ?_; rintro x w1 ⟨rfl, hb1⟩; have B1 := Lib.hid hb1; clear hb1)
      | (go_at_call 8; refine (ka _).mono ?_; rintro x w2 ⟨rfl, hb2⟩; have hb := belowThen B1.out hb2; have b2 := HBN.out.below hb HBN.out.lt; have r0 : w2.cell? ⟨w.heap.size, 0, none⟩ = some (.int .u64 e) := b2.cell 0; have r1 : w2.cell? ⟨w.heap.size, 1, none⟩ = some (.int .u64 l) := b2.cell 1; have r2 : w2.cell? ⟨w.heap.size, 2, none⟩ = some (.int .i64 a) := b2.cell 2; have HB := Lib.hid (HB0.out.trans (hb.mono HB0.out.size)); clear hb2 hb b2))
    exact end_ret (t := 6) (v := .bool true) (by kernel_rfl) rfl rfl ⟨rfl, HB.out⟩
  have n3 : decide (a < 0) = false := by simpa using a3
  have n4 : decide (256 < a) = true := by simp; omega
  clear hbad he hl a1 a2 a3
  go_enter Try.func5, Try.ntmps5
  go_upto_region 1 with fail
  rw [HW0.out]
  go_wp2_with (first
    | (go_at_call 14; refine (kp _).mono ?_; rintro x w1 ⟨rfl, hb1⟩; have B1 := Lib.hid hb1; clear hb1)
    | (go_at_call 8; refine (ka _).mono ?_; rintro x w2 ⟨rfl, hb2⟩; have hb := belowThen B1.out hb2; have b2 := HBN.out.below hb HBN.out.lt; have r0 : w2.cell? ⟨w.heap.size, 0, none⟩ = some (.int .u64 e) := b2.cell 0; have r1 : w2.cell? ⟨w.heap.size, 1, none⟩ = some (.int .u64 l) := b2.cell 1; have r2 : w2.cell? ⟨w.heap.size, 2, none⟩ = some (.int .i64 a) := b2.cell 2; have HB := Lib.hid (HB0.out.trans (hb.mono HB0.out.size)); clear hb2 hb b2))
  exact end_ret (t := 6) (v := .bool true) (by kernel_rfl) rfl rfl ⟨rfl, HB.out⟩
set_option maxHeartbeats 8000000 in
theorem short (e l a p q : Int) (w : World) (he : 0 < e ∧ e ≤ 18446744073709551615) (hl : 0 < l ∧ l ≤ 18446744073709551615) (ha : 0 ≤ a ∧ a ≤ 256) (hpq : p < 0 ∨ q % 256 = 0) :
    Calls Try.prog 5 #[.agg #[.int .u64 e, .int .u64 l, .int .i64 a], .int .i64 p, .int .i64 q] w fun e w' => e = .returned (.bool true) ∧ Below w.heap.size w w' := by
  have ka := fun W => RC.alive_any W
  have kp := fun W => put_head e l a he hl ha W
  have kg := fun W => get_head e l a he hl ha W
  have hsz := headT_size e l a
  have hbn := Blk.new w 39 #[.int .u64 e, .int .u64 l, .int .i64 a]
  have hb0 := (Below.refl _ w).alloc (Nat.le_refl _) (.cells #[.int .u64 e, .int .u64 l, .int .i64 a] 39)
  obtain ⟨W0, hW0⟩ : ∃ W0, w.alloc (.cells #[.int .u64 e, .int .u64 l, .int .i64 a] 39) = W0 := ⟨_, rfl⟩
  rw [hW0] at hbn hb0
  have c0 : W0.cell? ⟨w.heap.size, 0, none⟩ = some (.int .u64 e) := hbn.cell 0
  have c1 : W0.cell? ⟨w.heap.size, 1, none⟩ = some (.int .u64 l) := hbn.cell 1
  have c2 : W0.cell? ⟨w.heap.size, 2, none⟩ = some (.int .i64 a) := hbn.cell 2
  have HBN := Lib.hid hbn
  have HB0 := Lib.hid hb0
  have HW0 := Lib.hid hW0
  obtain ⟨T, hT⟩ : ∃ T, headT e l a = T := ⟨_, rfl⟩
  rw [hT] at kp kg hsz
  have hs64 : (T.size : Int) = 64 := by omega
  have ee : (e == e) = true := by simp
  have el : (l == l) = true := by simp
  have ea : (a == a) = true := by simp
  clear hbn hb0 hW0 hT hsz he hl ha
  by_cases a1 : p < 0
  · have n1 : decide (p < 0) = true := by simpa using a1
    clear hpq a1
    go_enter Try.func5, Try.ntmps5
    go_upto_region 1 with fail
    rw [HW0.out]
    go_wp2_with (first
      | (go_at_call 14; refine (kp _).mono ?_; rintro x w1 ⟨rfl, hb1⟩; have B1 := Lib.hid hb1; clear hb1)
      | (go_at_call 15; refine (kg _).mono ?_; rintro x w2 ⟨rfl, hb2⟩; have hb := belowNew (belowThen B1.out hb2) (.cells #[.int .u64 e, .int .u64 l, .int .i64 a] 39); have b2 := HBN.out.below hb HBN.out.lt; have r0 : (w2.alloc (.cells #[.int .u64 e, .int .u64 l, .int .i64 a] 39)).cell? ⟨w.heap.size, 0, none⟩ = some (.int .u64 e) := b2.cell 0; have r1 : (w2.alloc (.cells #[.int .u64 e, .int .u64 l, .int .i64 a] 39)).cell? ⟨w.heap.size, 1, none⟩ = some (.int .u64 l) := b2.cell 1; have r2 : (w2.alloc (.cells #[.int .u64 e, .int .u64 l, .int .i64 a] 39)).cell? ⟨w.heap.size, 2, none⟩ = some (.int .i64 a) := b2.cell 2; have HB := Lib.hid (HB0.out.trans (hb.mono HB0.out.size)); clear hb2 hb b2)
      | (go_at_call 8; refine (ka _).mono ?_; rintro x w3 ⟨rfl, hb3⟩; have HC := Lib.hid (belowThen HB.out hb3); clear hb3))
    exact end_ret (t := 6) (v := .bool true) (by kernel_rfl) rfl rfl ⟨rfl, HC.out⟩
  have n1 : decide (p < 0) = false := by simpa using a1
  have n2 : ((q % 256 : Int) == 0) = true := by simp; omega
  clear hpq a1
  go_enter Try.func5, Try.ntmps5
  go_upto_region 1 with fail
  rw [HW0.out]
  go_wp2_with (first
    | (go_at_call 14; refine (kp _).mono ?_; rintro x w1 ⟨rfl, hb1⟩; have B1 := Lib.hid hb1; clear hb1)
    | (go_at_call 15; refine (kg _).mono ?_; rintro x w2 ⟨rfl, hb2⟩; have hb := belowNew (belowThen B1.out hb2) (.cells #[.int .u64 e, .int .u64 l, .int .i64 a] 39); have b2 := HBN.out.below hb HBN.out.lt; have r0 : (w2.alloc (.cells #[.int .u64 e, .int .u64 l, .int .i64 a] 39)).cell? ⟨w.heap.size, 0, none⟩ = some (.int .u64 e) := b2.cell 0; have r1 : (w2.alloc (.cells #[.int .u64 e, .int .u64 l, .int .i64 a] 39)).cell? ⟨w.heap.size, 1, none⟩ = some (.int .u64 l) := b2.cell 1; have r2 : (w2.alloc (.cells #[.int .u64 e, .int .u64 l, .int .i64 a] 39)).cell? ⟨w.heap.size, 2, none⟩ = some (.int .i64 a) := b2.cell 2; have HB := Lib.hid (HB0.out.trans (hb.mono HB0.out.size)); clear hb2 hb b2)
    | (go_at_call 8; refine (ka _).mono ?_; rintro x w3 ⟨rfl, hb3⟩; have HC := Lib.hid (belowThen HB.out hb3); clear hb3))
  exact end_ret (t := 6) (v := .bool true) (by kernel_rfl) rfl rfl ⟨rfl, HC.out⟩
set_option maxHeartbeats 8000000 in
theorem long (e l a q : Int) (k : Nat) (w : World) (he : 0 < e ∧ e ≤ 18446744073709551615) (hl : 0 < l ∧ l ≤ 18446744073709551615) (ha : 0 ≤ a ∧ a ≤ 256) (hk : (k : Int) ≤ 9223372036854775807) (hq : q % 256 ≠ 0) :
    Calls Try.prog 5 #[.agg #[.int .u64 e, .int .u64 l, .int .i64 a], .int .i64 (k : Int), .int .i64 q] w fun e w' => e = .returned (.bool true) ∧ Below w.heap.size w w' := by
  obtain ⟨c, hc⟩ : ∃ c : UInt8, q % 256 = (c.toNat : Int) := ⟨UInt8.ofNat (q % 256).toNat, by simp; omega⟩
  have hc0 : c ≠ 0 := fun e => hq (by rw [hc, e]; rfl)
  obtain ⟨m, hm⟩ : ∃ m, k % 64 = m := ⟨_, rfl⟩
  have hml : m < 64 := by omega
  have lenx : (headT e l a).data.toList.length = 64 := (Array.length_toList).trans (headT_size e l a)
  obtain ⟨y, hy⟩ : ∃ y, (headT e l a).data.toList[m]? = some y := ⟨_, List.getElem?_eq_getElem (by rw [lenx]; exact hml)⟩
  have hne : ∀ z : UInt8, z ≠ z ^^^ c := fun z e => hc0 (by
    have := congrArg (z ^^^ ·) e
    simpa [← UInt8.xor_assoc] using this.symm)
  have f2 := fitsR_set (headB e l a) 64 (by omega) (by rw [headB_size]; omega) m hml (y ^^^ c) (by
    show (headT e l a).data.toList[m]? ≠ _
    rw [hy]; intro e; exact hne y (Option.some.inj e))
  have kb := fun W => get_head_bad (setT (headT e l a) m (y ^^^ c)) (by rw [setT_size, headT_size]) f2 W
  have x2 := xor_u8 y c
  obtain ⟨dy, hdy⟩ : ∃ d, y ^^^ c = d := ⟨_, rfl⟩
  rw [hdy] at x2 kb
  have d1 : ((k : Int) % 64) = (m : Int) := by omega
  have n1 : decide ((k : Int) < 0) = false := by simp
  have n2 : ((q % 256 : Int) == 0) = false := by simpa using hq
  rw [hc] at n2
  have n3 : ((c.toNat : Int) == 0) = false := n2
  have hd3 : (m : Int) < 64 := by omega
  have ka := fun W => RC.alive_any W
  have kp := fun W => put_head e l a he hl ha W
  have kg := fun W => get_head e l a he hl ha W
  have hsz := headT_size e l a
  have hbn := Blk.new w 39 #[.int .u64 e, .int .u64 l, .int .i64 a]
  have hb0 := (Below.refl _ w).alloc (Nat.le_refl _) (.cells #[.int .u64 e, .int .u64 l, .int .i64 a] 39)
  obtain ⟨W0, hW0⟩ : ∃ W0, w.alloc (.cells #[.int .u64 e, .int .u64 l, .int .i64 a] 39) = W0 := ⟨_, rfl⟩
  rw [hW0] at hbn hb0
  have c0 : W0.cell? ⟨w.heap.size, 0, none⟩ = some (.int .u64 e) := hbn.cell 0
  have c1 : W0.cell? ⟨w.heap.size, 1, none⟩ = some (.int .u64 l) := hbn.cell 1
  have c2 : W0.cell? ⟨w.heap.size, 2, none⟩ = some (.int .i64 a) := hbn.cell 2
  have HBN := Lib.hid hbn
  have HB0 := Lib.hid hb0
  have HW0 := Lib.hid hW0
  obtain ⟨T, hT⟩ : ∃ T, headT e l a = T := ⟨_, rfl⟩
  rw [hT] at kp kg hsz kb hy lenx
  have hs64 : (T.size : Int) = 64 := by omega
  have ee : (e == e) = true := by simp
  have el : (l == l) = true := by simp
  have ea : (a == a) = true := by simp
  clear hbn hb0 hW0 hT hsz he hl ha
  have HY := Lib.hid hy
  have LX := Lib.hid lenx
  have HM := Lib.hid hml
  have cv1 := fun W => Lib.run_convert_string_bytes (P := Try.prog) W 9 35 5 T Try.underlying9 Try.underlying35 Try.underlying5
  clear f2 hne hq hdy lenx hy hml hc0
  go_enter Try.func5, Try.ntmps5
  go_upto_region 1 with fail
  rw [HW0.out]
  go_upto_region 8 with (first
    | (go_at_call 14; refine (kp _).mono ?_; rintro x w1 ⟨rfl, hb1⟩; have B1 := Lib.hid hb1; clear hb1)
    | (go_at_call 15; refine (kg _).mono ?_; rintro x w2 ⟨rfl, hb2⟩; have HX := Lib.hid (Blk.new w2 39 #[.int .u64 e, .int .u64 l, .int .i64 a]); have hb := belowNew (belowThen B1.out hb2) (.cells #[.int .u64 e, .int .u64 l, .int .i64 a] 39); have b2 := HBN.out.below hb HBN.out.lt; have r0 := b2.cell 0; have r1 := b2.cell 1; have r2 := b2.cell 2; have HB := Lib.hid (HB0.out.trans (hb.mono HB0.out.size)); have BR := Lib.hid b2; clear hb2 hb b2))
  have hsw : (w2.alloc (.cells #[.int .u64 e, .int .u64 l, .int .i64 a] 39)).heap.size = w2.heap.size + 1 := by simp
  have b4 := below_bytes (w2.alloc (.cells #[.int .u64 e, .int .u64 l, .int .i64 a] 39)) 5 T
  have k4 := cells_new (w2.alloc (.cells #[.int .u64 e, .int .u64 l, .int .i64 a] 39)) 5 T
  have B4 := Lib.hid (belowThen HB.out b4)
  have hg1 : w.heap.size ≤ w2.heap.size + 1 := by have := HB.out.size; omega
  generalize Lib.bytesWorld (w2.alloc (.cells #[.int .u64 e, .int .u64 l, .int .i64 a] 39)) 5 T = w4 at b4 k4 B4 ⊢
  generalize grownCap (w2.alloc (.cells #[.int .u64 e, .int .u64 l, .int .i64 a] 39)) T.size 0 5 = cap2
  rw [hsw] at k4
  obtain ⟨g2, hgg⟩ : ∃ g, w2.heap.size + 1 = g := ⟨_, rfl⟩
  rw [hgg] at k4 hg1 ⊢
  have e2 := (k4.2 m y HY.out).1
  have e2' := (k4.2 m y HY.out).2
  have KK := Lib.hid k4
  clear b4 hgg k4 cv1 hsw r0 r1 r2 HB BR HX
  go_upto_region 9 with fail
  have L2 := Lib.hid (KK.out.set_ m (by rw [LX.out]; exact HM.out) dy)
  have B5 := Lib.hid (show Below w.heap.size w (w4.setCell ⟨g2, m, none⟩ (.int .u8 (dy.toNat : Int))) from B4.out.setCell hg1 _)
  generalize w4.setCell ⟨g2, m, none⟩ (.int .u8 (dy.toNat : Int)) = W5 at L2 B5 ⊢
  have cvA := L2.out.str (P := Try.prog) 35 9 5 Try.underlying35 Try.underlying5 Try.underlying9 T.size cap2 (by rw [List.length_set, LX.out]; omega)
  rw [show (⟨(T.data.toList.set m dy).toArray⟩ : ByteArray) = setT T m dy from rfl] at cvA
  generalize setT T m dy = Y1 at cvA kb
  clear e2 e2' x2 KK B4 L2
  go_wp2_with (first
    | (go_at_call 15; refine (kb _).mono ?_; rintro x w6 ⟨rfl, hb6⟩; have B6 := Lib.hid (belowNew (belowThen B5.out hb6) (.cells #[.int .u64 0, .int .u64 0, .int .i64 0] 39)); clear hb6)
    | (go_at_call 8; refine (ka _).mono ?_; rintro x w7 ⟨rfl, hb7⟩; have B7 := Lib.hid (belowThen B6.out hb7); clear hb7))
  exact end_ret (t := 6) (v := .bool true) (by kernel_rfl) rfl rfl ⟨rfl, B7.out⟩
theorem walk (e l a p q : Int) (w : World) (g0 : HeadOk e l a) (g1 : (Lit.int .i64 p).wf = true) (g2 : (Lit.int .i64 q).wf = true) :
    Calls Try.prog 5 #[.agg #[.int .u64 e, .int .u64 l, .int .i64 a], .int .i64 p, .int .i64 q] w fun e w' => e = .returned (.bool true) ∧ Below w.heap.size w w' := by
  have hp := bounds_i64 g1
  have he := g0.e
  have hl := g0.l
  by_cases h : 0 < e ∧ 0 < l ∧ 0 ≤ a ∧ a ≤ 256
  · by_cases hpq : p < 0 ∨ q % 256 = 0
    · exact short e l a p q w (by omega) (by omega) (by omega) hpq
    · obtain ⟨k, rfl⟩ : ∃ k : Nat, p = (k : Int) := ⟨p.toNat, by omega⟩
      exact long e l a q k w (by omega) (by omega) (by omega) (by omega) (by omega)
  · exact bad e l a p q w g0 h
end Go.Proofs.Ytmfbggdoejcpiaa.recHeads
