/- RecBack: the walk. No condition. -/
import Derived.Test.YtmfbggdoejcpiaaRec14
namespace Go.Proofs.Ytmfbggdoejcpiaa.recBack
open Go.RowKit Go.Proofs.Ytmfbggdoejcpiaa.SM Go.Proofs.Ytmfbggdoejcpiaa.RC
set_option linter.unusedVariables false
set_option linter.unusedSimpArgs false

set_option maxHeartbeats 8000000 in
theorem dark (e l p q : Int) (A : Option Addr) (n c : Nat) (xs : List Im) (more : ByteArray) (w : World) (h0 : RecOk w e l A n c xs) (hL : lightB 70 8000 xs = false) :
    Calls Try.prog 3 #[.agg #[.int .u64 e, .int .u64 l, .slice A n c], .string more, .int .i64 p, .int .i64 q] w fun e w' => e = .returned (.bool true) ∧ Below w.heap.size w w' := by
  have ka := fun W => RC.alive_any W
  have hln := h0.ims.2.2.1
  have hlc := h0.ims.1
  have hcm := h0.ims.2.1
  unfold maxLen at hcm
  have hbn := Blk.new w 25 #[.int .u64 e, .int .u64 l, .slice A n c]
  have hb0 := (Below.refl _ w).alloc (Nat.le_refl _) (.cells #[.int .u64 e, .int .u64 l, .slice A n c] 25)
  obtain ⟨W0, hW0⟩ : ∃ W0, w.alloc (.cells #[.int .u64 e, .int .u64 l, .slice A n c] 25) = W0 := ⟨_, rfl⟩
  rw [hW0] at hbn hb0
  obtain ⟨x0, hx0⟩ : ∃ x, w.heap.size = x := ⟨_, rfl⟩
  have HX0 := Lib.hid hx0
  rw [hx0] at hbn
  have c0 : W0.cell? ⟨x0, 0, none⟩ = some (.int .u64 e) := hbn.cell 0
  have c1 : W0.cell? ⟨x0, 1, none⟩ = some (.int .u64 l) := hbn.cell 1
  have c2 : W0.cell? ⟨x0, 2, none⟩ = some (.slice A n c) := hbn.cell 2
  have hI0 : Ims W0 A n c xs := h0.ims.old hb0
  have kl := light_any 70 8000 (by decide) W0 A n c xs hI0
  rw [hL] at kl
  have HBN := Lib.hid hbn
  have HB0 := Lib.hid hb0
  have HW0 := Lib.hid hW0
  have HI := Lib.hid hI0
  clear hbn hb0 hW0 hx0 hI0 h0 hL
  go_enter Try.func3, Try.ntmps3
  go_upto_region 1 with fail
  rw [HW0.out, HX0.out]
  go_wp2_with (first
    | (go_at_call 7; refine kl.mono ?_; rintro x w1 ⟨rfl, hb1⟩; have HB1 := Lib.hid hb1; have bk := HBN.out.below (HB1.out) HBN.out.lt; have f0 : w1.cell? ⟨x0, 0, none⟩ = some (.int .u64 e) := bk.cell 0; have f1 : w1.cell? ⟨x0, 1, none⟩ = some (.int .u64 l) := bk.cell 1; have f2 : w1.cell? ⟨x0, 2, none⟩ = some (.slice A n c) := bk.cell 2; clear bk; clear hb1)
    | (go_at_call 8; refine (ka _).mono ?_; rintro x w2 ⟨rfl, hb2⟩; have HB2 := Lib.hid (HB1.out.trans (hb2.mono HB1.out.size)); clear hb2))
  exact end_ret (t := 8) (v := .bool true) (by kernel_rfl) rfl rfl ⟨rfl, HB0.out.trans (HB2.out.mono HB0.out.size)⟩
set_option maxHeartbeats 8000000 in
theorem much (e l p q : Int) (A : Option Addr) (n c : Nat) (xs : List Im) (more : ByteArray) (w : World) (h0 : RecOk w e l A n c xs) (hL : lightB 70 8000 xs = true) (hm : 300 < more.size) :
    Calls Try.prog 3 #[.agg #[.int .u64 e, .int .u64 l, .slice A n c], .string more, .int .i64 p, .int .i64 q] w fun e w' => e = .returned (.bool true) ∧ Below w.heap.size w w' := by
  have ka := fun W => RC.alive_any W
  have hln := h0.ims.2.2.1
  have hlc := h0.ims.1
  have hcm := h0.ims.2.1
  unfold maxLen at hcm
  have hbn := Blk.new w 25 #[.int .u64 e, .int .u64 l, .slice A n c]
  have hb0 := (Below.refl _ w).alloc (Nat.le_refl _) (.cells #[.int .u64 e, .int .u64 l, .slice A n c] 25)
  obtain ⟨W0, hW0⟩ : ∃ W0, w.alloc (.cells #[.int .u64 e, .int .u64 l, .slice A n c] 25) = W0 := ⟨_, rfl⟩
  rw [hW0] at hbn hb0
  obtain ⟨x0, hx0⟩ : ∃ x, w.heap.size = x := ⟨_, rfl⟩
  have HX0 := Lib.hid hx0
  rw [hx0] at hbn
  have c0 : W0.cell? ⟨x0, 0, none⟩ = some (.int .u64 e) := hbn.cell 0
  have c1 : W0.cell? ⟨x0, 1, none⟩ = some (.int .u64 l) := hbn.cell 1
  have c2 : W0.cell? ⟨x0, 2, none⟩ = some (.slice A n c) := hbn.cell 2
  have hI0 : Ims W0 A n c xs := h0.ims.old hb0
  have kl := light_any 70 8000 (by decide) W0 A n c xs hI0
  rw [hL] at kl
  have HBN := Lib.hid hbn
  have HB0 := Lib.hid hb0
  have HW0 := Lib.hid hW0
  have HI := Lib.hid hI0
  have n1 : decide ((300 : Int) < (more.size : Int)) = true := by simp; omega
  clear hbn hb0 hW0 hx0 hI0 h0 hL hm
  go_enter Try.func3, Try.ntmps3
  go_upto_region 1 with fail
  rw [HW0.out, HX0.out]
  go_wp2_with (first
    | (go_at_call 7; refine kl.mono ?_; rintro x w1 ⟨rfl, hb1⟩; have HB1 := Lib.hid hb1; have bk := HBN.out.below (HB1.out) HBN.out.lt; have f0 : w1.cell? ⟨x0, 0, none⟩ = some (.int .u64 e) := bk.cell 0; have f1 : w1.cell? ⟨x0, 1, none⟩ = some (.int .u64 l) := bk.cell 1; have f2 : w1.cell? ⟨x0, 2, none⟩ = some (.slice A n c) := bk.cell 2; clear bk; clear hb1)
    | (go_at_call 8; refine (ka _).mono ?_; rintro x w2 ⟨rfl, hb2⟩; have HB2 := Lib.hid (HB1.out.trans (hb2.mono HB1.out.size)); clear hb2))
  exact end_ret (t := 8) (v := .bool true) (by kernel_rfl) rfl rfl ⟨rfl, HB0.out.trans (HB2.out.mono HB0.out.size)⟩
set_option maxHeartbeats 8000000 in
theorem neg (e l p q : Int) (A : Option Addr) (n c : Nat) (xs : List Im) (more : ByteArray) (w : World) (h0 : RecOk w e l A n c xs) (hL : lightB 70 8000 xs = true) (hm : ¬ 300 < more.size) (hp : p < 0) :
    Calls Try.prog 3 #[.agg #[.int .u64 e, .int .u64 l, .slice A n c], .string more, .int .i64 p, .int .i64 q] w fun e w' => e = .returned (.bool true) ∧ Below w.heap.size w w' := by
  have ka := fun W => RC.alive_any W
  have hln := h0.ims.2.2.1
  have hlc := h0.ims.1
  have hcm := h0.ims.2.1
  unfold maxLen at hcm
  have hbn := Blk.new w 25 #[.int .u64 e, .int .u64 l, .slice A n c]
  have hb0 := (Below.refl _ w).alloc (Nat.le_refl _) (.cells #[.int .u64 e, .int .u64 l, .slice A n c] 25)
  obtain ⟨W0, hW0⟩ : ∃ W0, w.alloc (.cells #[.int .u64 e, .int .u64 l, .slice A n c] 25) = W0 := ⟨_, rfl⟩
  rw [hW0] at hbn hb0
  obtain ⟨x0, hx0⟩ : ∃ x, w.heap.size = x := ⟨_, rfl⟩
  have HX0 := Lib.hid hx0
  rw [hx0] at hbn
  have c0 : W0.cell? ⟨x0, 0, none⟩ = some (.int .u64 e) := hbn.cell 0
  have c1 : W0.cell? ⟨x0, 1, none⟩ = some (.int .u64 l) := hbn.cell 1
  have c2 : W0.cell? ⟨x0, 2, none⟩ = some (.slice A n c) := hbn.cell 2
  have hI0 : Ims W0 A n c xs := h0.ims.old hb0
  have kl := light_any 70 8000 (by decide) W0 A n c xs hI0
  rw [hL] at kl
  have HBN := Lib.hid hbn
  have HB0 := Lib.hid hb0
  have HW0 := Lib.hid hW0
  have HI := Lib.hid hI0
  have n1 : decide ((300 : Int) < (more.size : Int)) = false := by simp; omega
  have n2 : decide (p < 0) = true := by simpa using hp
  clear hbn hb0 hW0 hx0 hI0 h0 hL hm hp
  go_enter Try.func3, Try.ntmps3
  go_upto_region 1 with fail
  rw [HW0.out, HX0.out]
  go_wp2_with (first
    | (go_at_call 7; refine kl.mono ?_; rintro x w1 ⟨rfl, hb1⟩; have HB1 := Lib.hid hb1; have bk := HBN.out.below (HB1.out) HBN.out.lt; have f0 : w1.cell? ⟨x0, 0, none⟩ = some (.int .u64 e) := bk.cell 0; have f1 : w1.cell? ⟨x0, 1, none⟩ = some (.int .u64 l) := bk.cell 1; have f2 : w1.cell? ⟨x0, 2, none⟩ = some (.slice A n c) := bk.cell 2; clear bk; clear hb1)
    | (go_at_call 8; refine (ka _).mono ?_; rintro x w2 ⟨rfl, hb2⟩; have HB2 := Lib.hid (HB1.out.trans (hb2.mono HB1.out.size)); clear hb2))
  exact end_ret (t := 8) (v := .bool true) (by kernel_rfl) rfl rfl ⟨rfl, HB0.out.trans (HB2.out.mono HB0.out.size)⟩
set_option maxHeartbeats 8000000 in
theorem bad (e l q : Int) (k : Nat) (A : Option Addr) (n c : Nat) (xs : List Im) (more : ByteArray) (w : World) (h0 : RecOk w e l A n c xs) (hL : lightB 70 8000 xs = true) (hm : ¬ 300 < more.size) (hw : wrongE e l xs ≠ 0) :
    Calls Try.prog 3 #[.agg #[.int .u64 e, .int .u64 l, .slice A n c], .string more, .int .i64 (k : Int), .int .i64 q] w fun e w' => e = .returned (.bool true) ∧ Below w.heap.size w w' := by
  have ka := fun W => RC.alive_any W
  have hln := h0.ims.2.2.1
  have hlc := h0.ims.1
  have hcm := h0.ims.2.1
  unfold maxLen at hcm
  have hbn := Blk.new w 25 #[.int .u64 e, .int .u64 l, .slice A n c]
  have hb0 := (Below.refl _ w).alloc (Nat.le_refl _) (.cells #[.int .u64 e, .int .u64 l, .slice A n c] 25)
  obtain ⟨W0, hW0⟩ : ∃ W0, w.alloc (.cells #[.int .u64 e, .int .u64 l, .slice A n c] 25) = W0 := ⟨_, rfl⟩
  rw [hW0] at hbn hb0
  obtain ⟨x0, hx0⟩ : ∃ x, w.heap.size = x := ⟨_, rfl⟩
  have HX0 := Lib.hid hx0
  rw [hx0] at hbn
  have c0 : W0.cell? ⟨x0, 0, none⟩ = some (.int .u64 e) := hbn.cell 0
  have c1 : W0.cell? ⟨x0, 1, none⟩ = some (.int .u64 l) := hbn.cell 1
  have c2 : W0.cell? ⟨x0, 2, none⟩ = some (.slice A n c) := hbn.cell 2
  have hI0 : Ims W0 A n c xs := h0.ims.old hb0
  have kl := light_any 70 8000 (by decide) W0 A n c xs hI0
  rw [hL] at kl
  have HBN := Lib.hid hbn
  have HB0 := Lib.hid hb0
  have HW0 := Lib.hid hW0
  have HI := Lib.hid hI0
  have n1 : decide ((300 : Int) < (more.size : Int)) = false := by simp; omega
  have n2 : decide ((k : Int) < 0) = false := by simp
  have kp := fun W h => put_bad e l A n c xs W h hw
  have n3 : (wrongE e l xs == 0) = false := by simpa using hw
  generalize wrongE e l xs = E at kp n3
  have n4 : ((⟨#[]⟩ : ByteArray).toList == (⟨#[]⟩ : ByteArray).toList) = true := by simp
  clear hbn hb0 hW0 hx0 hI0 h0 hL hm hw
  go_enter Try.func3, Try.ntmps3
  go_upto_region 1 with fail
  rw [HW0.out, HX0.out]
  go_wp2_with (first
    | (go_at_call 7; refine kl.mono ?_; rintro x w1 ⟨rfl, hb1⟩; have HB1 := Lib.hid hb1; have bk := HBN.out.below (HB1.out) HBN.out.lt; have f0 : w1.cell? ⟨x0, 0, none⟩ = some (.int .u64 e) := bk.cell 0; have f1 : w1.cell? ⟨x0, 1, none⟩ = some (.int .u64 l) := bk.cell 1; have f2 : w1.cell? ⟨x0, 2, none⟩ = some (.slice A n c) := bk.cell 2; clear bk; clear hb1)
    | (go_at_call 9; refine (kp _ (HI.out.old HB1.out)).mono ?_; rintro x w2 ⟨rfl, hb2⟩; have HBP := Lib.hid (HB1.out.trans (hb2.mono HB1.out.size)); clear hb2)
    | (go_at_call 8; refine (ka _).mono ?_; rintro x w3 ⟨rfl, hb3⟩; have HB2 := Lib.hid (HBP.out.trans (hb3.mono HBP.out.size)); clear hb3))
  exact end_ret (t := 8) (v := .bool true) (by kernel_rfl) rfl rfl ⟨rfl, HB0.out.trans (HB2.out.mono HB0.out.size)⟩
set_option maxRecDepth 100000 in
set_option maxHeartbeats 16000000 in
theorem turned (e l q : Int) (k : Nat) (A : Option Addr) (n c m : Nat) (xs : List Im) (more : ByteArray) (w : World) (h0 : RecOk w e l A n c xs) (hL : lightB 70 8000 xs = true) (hmr : ¬ 300 < more.size) (hf : Fits e l xs) (hm : secsN n = m) (hk : (k : Int) ≤ 9223372036854775807) (hq : q % 256 ≠ 0) :
    Calls Try.prog 3 #[.agg #[.int .u64 e, .int .u64 l, .slice A n c], .string more, .int .i64 (k : Int), .int .i64 q] w fun e w' => e = .returned (.bool true) ∧ Below w.heap.size w w' := by
  have ka := fun W => RC.alive_any W
  have hln := h0.ims.2.2.1
  have hlc := h0.ims.1
  have hcm := h0.ims.2.1
  unfold maxLen at hcm
  have hbn := Blk.new w 25 #[.int .u64 e, .int .u64 l, .slice A n c]
  have hb0 := (Below.refl _ w).alloc (Nat.le_refl _) (.cells #[.int .u64 e, .int .u64 l, .slice A n c] 25)
  obtain ⟨W0, hW0⟩ : ∃ W0, w.alloc (.cells #[.int .u64 e, .int .u64 l, .slice A n c] 25) = W0 := ⟨_, rfl⟩
  rw [hW0] at hbn hb0
  obtain ⟨x0, hx0⟩ : ∃ x, w.heap.size = x := ⟨_, rfl⟩
  have HX0 := Lib.hid hx0
  rw [hx0] at hbn
  have c0 : W0.cell? ⟨x0, 0, none⟩ = some (.int .u64 e) := hbn.cell 0
  have c1 : W0.cell? ⟨x0, 1, none⟩ = some (.int .u64 l) := hbn.cell 1
  have c2 : W0.cell? ⟨x0, 2, none⟩ = some (.slice A n c) := hbn.cell 2
  have hI0 : Ims W0 A n c xs := h0.ims.old hb0
  have kl := light_any 70 8000 (by decide) W0 A n c xs hI0
  rw [hL] at kl
  have HBN := Lib.hid hbn
  have HB0 := Lib.hid hb0
  have HW0 := Lib.hid hW0
  have HI := Lib.hid hI0
  have n1 : decide ((300 : Int) < (more.size : Int)) = false := by simp; omega
  have n2 : decide ((k : Int) < 0) = false := by simp
  have he := h0.e
  have hl := h0.l
  have hok := h0.ims.2.2.2.1
  have hn1 := hf.n1
  have hn2 := hf.n2
  rw [hln] at hn1 hn2
  obtain ⟨m1, m2, m3, m4⟩ := secs_facts hn1 hn2
  rw [hm] at m1 m2 m3 m4
  have hps := putT_size (e := e) (l := l) hln hm
  have kp := fun W h => put_ok e l A n c xs W h hf he hl
  have kg := fun W => get_ok (putT e l xs ++ more) (by rw [ByteArray.size_append, hps]; omega) e l xs n m hln hm hf hok he hl (by rw [ByteArray.size_append, hps]; omega) (by rw [← hps]; exact ByteArray.extract_append_eq_left rfl) W
  have kc := fun W => get_cut (e := e) (l := l) hln hm hf he hl (64 * m - 1) (by omega) (by omega) W
  have ks := fun W => sectors_any (n : Int) W
  rw [secsI_nat hn1 hn2, hm] at ks
  -- the byte that is turned
  obtain ⟨b, hb⟩ : ∃ b : UInt8, q % 256 = (b.toNat : Int) := ⟨UInt8.ofNat (q % 256).toNat, by simp; omega⟩
  obtain ⟨u, hu⟩ : ∃ u, k % (64 * m) = u := ⟨_, rfl⟩
  have hul : u < 64 * m := by rw [← hu]; exact Nat.mod_lt _ (by omega)
  have lenx : (putT e l xs).data.toList.length = 64 * m := (Array.length_toList).trans hps
  obtain ⟨y, hy⟩ : ∃ y, (putT e l xs).data.toList[u]? = some y := ⟨_, List.getElem?_eq_getElem (by rw [lenx]; exact hul)⟩
  have hc0 : b ≠ 0 := fun e => hq (by rw [hb, e]; rfl)
  have hne : ∀ z : UInt8, z ≠ z ^^^ b := fun z e => hc0 (by
    have := congrArg (z ^^^ ·) e
    simpa [← UInt8.xor_assoc] using this.symm)
  have kh := fun W => get_changed (e := e) (l := l) hln hm hf hok he hl u hul (y ^^^ b) (by rw [hy]; intro e; exact hne y (Option.some.inj e)) W
  have n3 : ((b.toNat : Int) == 0) = false := by rw [← hb]; simpa using hq
  have x2 := xor_u8 y b
  obtain ⟨dy, hdy⟩ : ∃ d, y ^^^ b = d := ⟨_, rfl⟩
  rw [hdy] at x2 kh
  obtain ⟨P, hP⟩ : ∃ P, putT e l xs = P := ⟨_, rfl⟩
  rw [hP] at kp kg kc hps lenx hy kh
  have d1 : ((k : Int) % (P.size : Int)) = (u : Int) := by rw [← hu, hps]; simp
  have d2 : (u : Int) < (P.size : Int) := by omega
  have d3 : ((P.size : Int) == 0) = false := by rw [beq_eq_false_iff_ne]; omega
  have d4 : (P.size : Int) ≤ 100000 := by omega
  have d5 : (m : Int) * 64 = (P.size : Int) := by omega
  have d6 : IntKind.i64.wrap (P.size : Int) = (P.size : Int) := IntWalk.i64_in _ (by omega)
  obtain ⟨s1, hs1⟩ : ∃ s1, 64 * m - 1 = s1 := ⟨_, rfl⟩
  rw [hs1] at kc
  have d7 : IntKind.i64.wrap ((P.size : Int) - 1) = (s1 : Int) := by rw [IntWalk.i64_in _ (by omega)]; omega
  have d8 : (s1 : Int) ≤ (P.size : Int) := by omega
  have d9 : ¬ 9223372036854775807 < P.size + more.size := by omega
  have ee : (e == e) = true := by simp
  have el : (l == l) = true := by simp
  have mm : ((m : Int) == (m : Int)) = true := by simp
  have HY := Lib.hid hy
  have LX := Lib.hid (show P.data.toList.length = P.size from Array.length_toList)
  have HU : Hid (u < P.size) := Lib.hid (by omega)
  have cv1 := fun W => Lib.run_convert_string_bytes (P := Try.prog) W 9 35 5 P Try.underlying9 Try.underlying35 Try.underlying5
  clear hbn hb0 hW0 hx0 hI0 h0 hL hmr hf hm hk he hl hok m1 m2 m3 m4 hu hul lenx hy hdy hP hs1 hps hn1 hn2 hq hc0 hne
  go_enter Try.func3, Try.ntmps3
  go_upto_region 1 with fail
  rw [HW0.out, HX0.out]
  go_upto_region 7 with (first
    | (go_at_call 7; refine kl.mono ?_; rintro x w1 ⟨rfl, hb1⟩; have HB1 := Lib.hid hb1; have bk := HBN.out.below (HB1.out) HBN.out.lt; have f0 : w1.cell? ⟨x0, 0, none⟩ = some (.int .u64 e) := bk.cell 0; have f1 : w1.cell? ⟨x0, 1, none⟩ = some (.int .u64 l) := bk.cell 1; have f2 : w1.cell? ⟨x0, 2, none⟩ = some (.slice A n c) := bk.cell 2; clear bk; clear hb1)
    | (go_at_call 9; refine (kp _ (HI.out.old HB1.out)).mono ?_; rintro x w2 ⟨rfl, hb2⟩; have HB2 := Lib.hid (HB1.out.trans (hb2.mono HB1.out.size)); clear hb2 f0 f1 f2)
    | (go_at_call 10; refine (kg _).mono ?_; rintro x w3 ⟨A3, c3, rfl, hI3, hb3⟩; have HI3 := Lib.hid hI3; have HB3 := Lib.hid (HB2.out.trans (hb3.mono HB2.out.size)); clear hb3 hI3))
  have hx3 := Blk.new w3 25 #[.int .u64 e, .int .u64 l, .slice A3 n c3]
  have hI4 := HI3.out.old (belowNew (belowSame w3) (.cells #[.int .u64 e, .int .u64 l, .slice A3 n c3] 25))
  have hb4 := HB3.out.alloc HB3.out.size (.cells #[.int .u64 e, .int .u64 l, .slice A3 n c3] 25)
  obtain ⟨W4, hW4⟩ : ∃ W, w3.alloc (.cells #[.int .u64 e, .int .u64 l, .slice A3 n c3] 25) = W := ⟨_, rfl⟩
  rw [hW4] at hx3 hI4 hb4 ⊢
  obtain ⟨y4, hy4⟩ : ∃ y, w3.heap.size = y := ⟨_, rfl⟩
  rw [hy4] at hx3 ⊢
  have g0 : W4.cell? ⟨y4, 0, none⟩ = some (.int .u64 e) := hx3.cell 0
  have g1 : W4.cell? ⟨y4, 1, none⟩ = some (.int .u64 l) := hx3.cell 1
  have g2 : W4.cell? ⟨y4, 2, none⟩ = some (.slice A3 n c3) := hx3.cell 2
  have hbk := HBN.out.below hb4 HBN.out.lt
  have z0 : W4.cell? ⟨x0, 0, none⟩ = some (.int .u64 e) := hbk.cell 0
  have z1 : W4.cell? ⟨x0, 1, none⟩ = some (.int .u64 l) := hbk.cell 1
  have z2 : W4.cell? ⟨x0, 2, none⟩ = some (.slice A n c) := hbk.cell 2
  have ksame := same_images W4 A3 A n c3 c xs hI4 (HI.out.old hb4)
  have HB4 := Lib.hid hb4
  have HBK := Lib.hid hbk
  clear hx3 hI4 hb4 hW4 hy4 hbk c0 c1 c2 HI3 HB3
  go_upto_region 9 with (first
    | (go_at_call 11; refine (ks _).mono ?_; rintro x w5 ⟨rfl, rfl⟩)
    | (go_at_call 12; refine ksame.mono ?_; rintro x w6 ⟨rfl, hb6⟩; have HB6 := Lib.hid (HB4.out.trans (hb6.mono HB4.out.size)); clear hb6))
  clear g0 g1 g2 z0 z1 z2 ksame ks HB4
  go_upto_region 11 with (go_at_call 10; refine (kc _).mono ?_; rintro x w7 ⟨rfl, hb7⟩; have HB7 := Lib.hid (HB6.out.trans (hb7.mono HB6.out.size)); clear hb7)
  have hsw : (w7.alloc (.cells #[.int .u64 0, .int .u64 0, .slice none 0 0] 25)).heap.size = w7.heap.size + 1 := by simp
  have b4 := below_bytes (w7.alloc (.cells #[.int .u64 0, .int .u64 0, .slice none 0 0] 25)) 5 P
  have k4 := cells_new (w7.alloc (.cells #[.int .u64 0, .int .u64 0, .slice none 0 0] 25)) 5 P
  have hb7 := HB7.out.alloc HB7.out.size (.cells #[.int .u64 0, .int .u64 0, .slice none 0 0] 25)
  have B8 := Lib.hid (hb7.trans (b4.mono hb7.size))
  have hg1 : W0.heap.size ≤ w7.heap.size + 1 := by have := HB7.out.size; omega
  generalize Lib.bytesWorld (w7.alloc (.cells #[.int .u64 0, .int .u64 0, .slice none 0 0] 25)) 5 P = w8 at b4 k4 B8 ⊢
  generalize grownCap (w7.alloc (.cells #[.int .u64 0, .int .u64 0, .slice none 0 0] 25)) P.size 0 5 = cap2
  rw [hsw] at k4
  obtain ⟨g8, hgg⟩ : ∃ g, w7.heap.size + 1 = g := ⟨_, rfl⟩
  rw [hgg] at k4 hg1 ⊢
  have e2 := (k4.2 u y HY.out).1
  have e2' := (k4.2 u y HY.out).2
  have KK := Lib.hid k4
  clear b4 hgg k4 cv1 hsw hb7
  go_upto_region 12 with fail
  have L2 := Lib.hid (KK.out.set_ u (by rw [LX.out]; exact HU.out) dy)
  have B5 := Lib.hid (show Below W0.heap.size W0 (w8.setCell ⟨g8, u, none⟩ (.int .u8 (dy.toNat : Int))) from B8.out.setCell hg1 _)
  generalize w8.setCell ⟨g8, u, none⟩ (.int .u8 (dy.toNat : Int)) = W5 at L2 B5 ⊢
  have cvA := L2.out.str (P := Try.prog) 35 9 5 Try.underlying35 Try.underlying5 Try.underlying9 P.size cap2 (by rw [List.length_set, LX.out])
  rw [show (⟨(P.data.toList.set u dy).toArray⟩ : ByteArray) = setT P u dy from rfl] at cvA
  generalize setT P u dy = Y1 at cvA kh
  clear e2 e2' x2 KK B8 L2
  go_wp2_with (first
    | (go_at_call 10; refine (kh _).mono ?_; rintro x w9 ⟨rfl, hb9⟩; have hb99 := B5.out.trans (hb9.mono B5.out.size); have B9 := Lib.hid (hb99.alloc hb99.size (.cells #[.int .u64 0, .int .u64 0, .slice none 0 0] 25)); clear hb9 hb99)
    | (go_at_call 8; refine (ka _).mono ?_; rintro x w10 ⟨rfl, hb10⟩; have B10 := Lib.hid (B9.out.trans (hb10.mono B9.out.size)); clear hb10))
  exact end_ret (t := 8) (v := .bool true) (by kernel_rfl) rfl rfl ⟨rfl, HB0.out.trans (B10.out.mono HB0.out.size)⟩
set_option maxRecDepth 100000 in
set_option maxHeartbeats 16000000 in
theorem same (e l q : Int) (k : Nat) (A : Option Addr) (n c m : Nat) (xs : List Im) (more : ByteArray) (w : World) (h0 : RecOk w e l A n c xs) (hL : lightB 70 8000 xs = true) (hmr : ¬ 300 < more.size) (hf : Fits e l xs) (hm : secsN n = m) (hk : (k : Int) ≤ 9223372036854775807) (hq : q % 256 = 0) :
    Calls Try.prog 3 #[.agg #[.int .u64 e, .int .u64 l, .slice A n c], .string more, .int .i64 (k : Int), .int .i64 q] w fun e w' => e = .returned (.bool true) ∧ Below w.heap.size w w' := by
  have ka := fun W => RC.alive_any W
  have hln := h0.ims.2.2.1
  have hlc := h0.ims.1
  have hcm := h0.ims.2.1
  unfold maxLen at hcm
  have hbn := Blk.new w 25 #[.int .u64 e, .int .u64 l, .slice A n c]
  have hb0 := (Below.refl _ w).alloc (Nat.le_refl _) (.cells #[.int .u64 e, .int .u64 l, .slice A n c] 25)
  obtain ⟨W0, hW0⟩ : ∃ W0, w.alloc (.cells #[.int .u64 e, .int .u64 l, .slice A n c] 25) = W0 := ⟨_, rfl⟩
  rw [hW0] at hbn hb0
  obtain ⟨x0, hx0⟩ : ∃ x, w.heap.size = x := ⟨_, rfl⟩
  have HX0 := Lib.hid hx0
  rw [hx0] at hbn
  have c0 : W0.cell? ⟨x0, 0, none⟩ = some (.int .u64 e) := hbn.cell 0
  have c1 : W0.cell? ⟨x0, 1, none⟩ = some (.int .u64 l) := hbn.cell 1
  have c2 : W0.cell? ⟨x0, 2, none⟩ = some (.slice A n c) := hbn.cell 2
  have hI0 : Ims W0 A n c xs := h0.ims.old hb0
  have kl := light_any 70 8000 (by decide) W0 A n c xs hI0
  rw [hL] at kl
  have HBN := Lib.hid hbn
  have HB0 := Lib.hid hb0
  have HW0 := Lib.hid hW0
  have HI := Lib.hid hI0
  have n1 : decide ((300 : Int) < (more.size : Int)) = false := by simp; omega
  have n2 : decide ((k : Int) < 0) = false := by simp
  have he := h0.e
  have hl := h0.l
  have hok := h0.ims.2.2.2.1
  have hn1 := hf.n1
  have hn2 := hf.n2
  rw [hln] at hn1 hn2
  obtain ⟨m1, m2, m3, m4⟩ := secs_facts hn1 hn2
  rw [hm] at m1 m2 m3 m4
  have hps := putT_size (e := e) (l := l) hln hm
  have kp := fun W h => put_ok e l A n c xs W h hf he hl
  have kg := fun W => get_ok (putT e l xs ++ more) (by rw [ByteArray.size_append, hps]; omega) e l xs n m hln hm hf hok he hl (by rw [ByteArray.size_append, hps]; omega) (by rw [← hps]; exact ByteArray.extract_append_eq_left rfl) W
  have kc := fun W => get_cut (e := e) (l := l) hln hm hf he hl (64 * m - 1) (by omega) (by omega) W
  have ks := fun W => sectors_any (n : Int) W
  rw [secsI_nat hn1 hn2, hm] at ks
  -- the byte that is turned
  obtain ⟨b, hb⟩ : ∃ b : UInt8, q % 256 = (b.toNat : Int) := ⟨UInt8.ofNat (q % 256).toNat, by simp; omega⟩
  obtain ⟨u, hu⟩ : ∃ u, k % (64 * m) = u := ⟨_, rfl⟩
  have hul : u < 64 * m := by rw [← hu]; exact Nat.mod_lt _ (by omega)
  have lenx : (putT e l xs).data.toList.length = 64 * m := (Array.length_toList).trans hps
  obtain ⟨y, hy⟩ : ∃ y, (putT e l xs).data.toList[u]? = some y := ⟨_, List.getElem?_eq_getElem (by rw [lenx]; exact hul)⟩
  have hc0 : b = 0 := by
    have h1 : (b.toNat : Int) = 0 := by rw [← hb]; exact hq
    exact UInt8.toNat_inj.1 (by show b.toNat = 0; omega)
  have hsame : setT (putT e l xs) u (y ^^^ b) = putT e l xs := by
    refine ba_ext ?_
    rw [setT_data, hc0, show y ^^^ 0 = y by simp]
    obtain ⟨hlt, he⟩ := List.getElem?_eq_some_iff.1 hy
    rw [← he]
    exact List.set_getElem_self hlt
  have kh := fun W => get_ok (setT (putT e l xs) u (y ^^^ b)) (by rw [hsame, hps]; omega) e l xs n m hln hm hf hok he hl (by rw [hsame, hps]; omega) (by rw [hsame, ← hps]; exact ext_all _ _ (Nat.le_refl _)) W
  have n3 : ((b.toNat : Int) == 0) = true := by rw [hc0]; rfl
  have x2 := xor_u8 y b
  obtain ⟨dy, hdy⟩ : ∃ d, y ^^^ b = d := ⟨_, rfl⟩
  rw [hdy] at x2 kh
  obtain ⟨P, hP⟩ : ∃ P, putT e l xs = P := ⟨_, rfl⟩
  rw [hP] at kp kg kc hps lenx hy kh
  have d1 : ((k : Int) % (P.size : Int)) = (u : Int) := by rw [← hu, hps]; simp
  have d2 : (u : Int) < (P.size : Int) := by omega
  have d3 : ((P.size : Int) == 0) = false := by rw [beq_eq_false_iff_ne]; omega
  have d4 : (P.size : Int) ≤ 100000 := by omega
  have d5 : (m : Int) * 64 = (P.size : Int) := by omega
  have d6 : IntKind.i64.wrap (P.size : Int) = (P.size : Int) := IntWalk.i64_in _ (by omega)
  obtain ⟨s1, hs1⟩ : ∃ s1, 64 * m - 1 = s1 := ⟨_, rfl⟩
  rw [hs1] at kc
  have d7 : IntKind.i64.wrap ((P.size : Int) - 1) = (s1 : Int) := by rw [IntWalk.i64_in _ (by omega)]; omega
  have d8 : (s1 : Int) ≤ (P.size : Int) := by omega
  have d9 : ¬ 9223372036854775807 < P.size + more.size := by omega
  have ee : (e == e) = true := by simp
  have el : (l == l) = true := by simp
  have mm : ((m : Int) == (m : Int)) = true := by simp
  have HY := Lib.hid hy
  have LX := Lib.hid (show P.data.toList.length = P.size from Array.length_toList)
  have HU : Hid (u < P.size) := Lib.hid (by omega)
  have cv1 := fun W => Lib.run_convert_string_bytes (P := Try.prog) W 9 35 5 P Try.underlying9 Try.underlying35 Try.underlying5
  clear hbn hb0 hW0 hx0 hI0 h0 hL hmr hf hm hk he hl hok m1 m2 m3 m4 hu hul lenx hy hdy hP hs1 hps hn1 hn2 hq hc0 hsame
  go_enter Try.func3, Try.ntmps3
  go_upto_region 1 with fail
  rw [HW0.out, HX0.out]
  go_upto_region 7 with (first
    | (go_at_call 7; refine kl.mono ?_; rintro x w1 ⟨rfl, hb1⟩; have HB1 := Lib.hid hb1; have bk := HBN.out.below (HB1.out) HBN.out.lt; have f0 : w1.cell? ⟨x0, 0, none⟩ = some (.int .u64 e) := bk.cell 0; have f1 : w1.cell? ⟨x0, 1, none⟩ = some (.int .u64 l) := bk.cell 1; have f2 : w1.cell? ⟨x0, 2, none⟩ = some (.slice A n c) := bk.cell 2; clear bk; clear hb1)
    | (go_at_call 9; refine (kp _ (HI.out.old HB1.out)).mono ?_; rintro x w2 ⟨rfl, hb2⟩; have HB2 := Lib.hid (HB1.out.trans (hb2.mono HB1.out.size)); clear hb2 f0 f1 f2)
    | (go_at_call 10; refine (kg _).mono ?_; rintro x w3 ⟨A3, c3, rfl, hI3, hb3⟩; have HI3 := Lib.hid hI3; have HB3 := Lib.hid (HB2.out.trans (hb3.mono HB2.out.size)); clear hb3 hI3))
  have hx3 := Blk.new w3 25 #[.int .u64 e, .int .u64 l, .slice A3 n c3]
  have hI4 := HI3.out.old (belowNew (belowSame w3) (.cells #[.int .u64 e, .int .u64 l, .slice A3 n c3] 25))
  have hb4 := HB3.out.alloc HB3.out.size (.cells #[.int .u64 e, .int .u64 l, .slice A3 n c3] 25)
  obtain ⟨W4, hW4⟩ : ∃ W, w3.alloc (.cells #[.int .u64 e, .int .u64 l, .slice A3 n c3] 25) = W := ⟨_, rfl⟩
  rw [hW4] at hx3 hI4 hb4 ⊢
  obtain ⟨y4, hy4⟩ : ∃ y, w3.heap.size = y := ⟨_, rfl⟩
  rw [hy4] at hx3 ⊢
  have g0 : W4.cell? ⟨y4, 0, none⟩ = some (.int .u64 e) := hx3.cell 0
  have g1 : W4.cell? ⟨y4, 1, none⟩ = some (.int .u64 l) := hx3.cell 1
  have g2 : W4.cell? ⟨y4, 2, none⟩ = some (.slice A3 n c3) := hx3.cell 2
  have hbk := HBN.out.below hb4 HBN.out.lt
  have z0 : W4.cell? ⟨x0, 0, none⟩ = some (.int .u64 e) := hbk.cell 0
  have z1 : W4.cell? ⟨x0, 1, none⟩ = some (.int .u64 l) := hbk.cell 1
  have z2 : W4.cell? ⟨x0, 2, none⟩ = some (.slice A n c) := hbk.cell 2
  have ksame := same_images W4 A3 A n c3 c xs hI4 (HI.out.old hb4)
  have HB4 := Lib.hid hb4
  have HBK := Lib.hid hbk
  clear hx3 hI4 hb4 hW4 hy4 hbk c0 c1 c2 HI3 HB3
  go_upto_region 9 with (first
    | (go_at_call 11; refine (ks _).mono ?_; rintro x w5 ⟨rfl, rfl⟩)
    | (go_at_call 12; refine ksame.mono ?_; rintro x w6 ⟨rfl, hb6⟩; have HB6 := Lib.hid (HB4.out.trans (hb6.mono HB4.out.size)); clear hb6))
  clear g0 g1 g2 z0 z1 z2 ksame ks HB4
  go_upto_region 11 with (go_at_call 10; refine (kc _).mono ?_; rintro x w7 ⟨rfl, hb7⟩; have HB7 := Lib.hid (HB6.out.trans (hb7.mono HB6.out.size)); clear hb7)
  have hsw : (w7.alloc (.cells #[.int .u64 0, .int .u64 0, .slice none 0 0] 25)).heap.size = w7.heap.size + 1 := by simp
  have b4 := below_bytes (w7.alloc (.cells #[.int .u64 0, .int .u64 0, .slice none 0 0] 25)) 5 P
  have k4 := cells_new (w7.alloc (.cells #[.int .u64 0, .int .u64 0, .slice none 0 0] 25)) 5 P
  have hb7 := HB7.out.alloc HB7.out.size (.cells #[.int .u64 0, .int .u64 0, .slice none 0 0] 25)
  have B8 := Lib.hid (hb7.trans (b4.mono hb7.size))
  have hg1 : W0.heap.size ≤ w7.heap.size + 1 := by have := HB7.out.size; omega
  generalize Lib.bytesWorld (w7.alloc (.cells #[.int .u64 0, .int .u64 0, .slice none 0 0] 25)) 5 P = w8 at b4 k4 B8 ⊢
  generalize grownCap (w7.alloc (.cells #[.int .u64 0, .int .u64 0, .slice none 0 0] 25)) P.size 0 5 = cap2
  rw [hsw] at k4
  obtain ⟨g8, hgg⟩ : ∃ g, w7.heap.size + 1 = g := ⟨_, rfl⟩
  rw [hgg] at k4 hg1 ⊢
  have e2 := (k4.2 u y HY.out).1
  have e2' := (k4.2 u y HY.out).2
  have KK := Lib.hid k4
  clear b4 hgg k4 cv1 hsw hb7
  go_upto_region 12 with fail
  have L2 := Lib.hid (KK.out.set_ u (by rw [LX.out]; exact HU.out) dy)
  have B5 := Lib.hid (show Below W0.heap.size W0 (w8.setCell ⟨g8, u, none⟩ (.int .u8 (dy.toNat : Int))) from B8.out.setCell hg1 _)
  generalize w8.setCell ⟨g8, u, none⟩ (.int .u8 (dy.toNat : Int)) = W5 at L2 B5 ⊢
  have cvA := L2.out.str (P := Try.prog) 35 9 5 Try.underlying35 Try.underlying5 Try.underlying9 P.size cap2 (by rw [List.length_set, LX.out])
  rw [show (⟨(P.data.toList.set u dy).toArray⟩ : ByteArray) = setT P u dy from rfl] at cvA
  generalize setT P u dy = Y1 at cvA kh
  clear e2 e2' x2 KK B8 L2
  go_wp2_with (first
    | (go_at_call 10; refine (kh _).mono ?_; rintro x w9 ⟨A9, c9, rfl, _, hb9⟩; have hb99 := B5.out.trans (hb9.mono B5.out.size); have B9 := Lib.hid (hb99.alloc hb99.size (.cells #[.int .u64 e, .int .u64 l, .slice A9 n c9] 25)); clear hb9 hb99)
    | (go_at_call 8; refine (ka _).mono ?_; rintro x w10 ⟨rfl, hb10⟩; have B10 := Lib.hid (B9.out.trans (hb10.mono B9.out.size)); clear hb10))
  exact end_ret (t := 8) (v := .bool true) (by kernel_rfl) rfl rfl ⟨rfl, HB0.out.trans (B10.out.mono HB0.out.size)⟩
theorem walk (e l : Int) (A : Option Addr) (n c : Nat) (xs : List Im) (more : ByteArray) (p q : Int) (w : World) (h0 : RecOk w e l A n c xs) (_g1 : more.size ≤ maxLen) (g2 : (Lit.int .i64 p).wf = true) (g3 : (Lit.int .i64 q).wf = true) :
    Calls Try.prog 3 #[.agg #[.int .u64 e, .int .u64 l, .slice A n c], .string more, .int .i64 p, .int .i64 q] w fun e w' => e = .returned (.bool true) ∧ Below w.heap.size w w' := by
  have hp := bounds_i64 g2
  cases hL : lightB 70 8000 xs with
  | false => exact dark e l p q A n c xs more w h0 hL
  | true =>
    by_cases hm : 300 < more.size
    · exact much e l p q A n c xs more w h0 hL hm
    by_cases hp0 : p < 0
    · exact neg e l p q A n c xs more w h0 hL hm hp0
    obtain ⟨k, rfl⟩ : ∃ k : Nat, p = (k : Int) := ⟨p.toNat, by omega⟩
    by_cases hw : wrongE e l xs = 0
    · by_cases hq : q % 256 = 0
      · exact same e l q k A n c _ xs more w h0 hL hm (wrong_iff.1 hw) rfl hp.2 hq
      · exact turned e l q k A n c _ xs more w h0 hL hm (wrong_iff.1 hw) rfl hp.2 hq
    · exact bad e l q k A n c xs more w h0 hL hm hw
end Go.Proofs.Ytmfbggdoejcpiaa.recBack
