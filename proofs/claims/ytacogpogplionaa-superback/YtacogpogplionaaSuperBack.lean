/- SuperBack: the walk. No condition. -/
import Derived.Test.YtacogpogplionaaSupIn
import Derived.Test.YtacogpogplionaaBytes
import Derived.Test.YtacogpogplionaaSumSet
namespace Go.Proofs.Ytacogpogplionaa.superBack
set_option maxRecDepth 100000
open Go.RowKit Go.Proofs.Ytacogpogplionaa.SU Go.Proofs.Ytacogpogplionaa.SM
set_option linter.unusedVariables false
set_option linter.unusedSimpArgs false

theorem same_set (T : ByteArray) (m : Nat) (y : UInt8) (h : T.data.toList[m]? = some y) : setT T m y = T := by
  have h1 : T.data.toList.set m y = T.data.toList := by
    obtain ⟨hl, he⟩ := List.getElem?_eq_some_iff.1 h
    rw [← he]
    exact List.set_getElem_self hl
  cases T with
  | mk d => show (⟨(d.toList.set m y).toArray⟩ : ByteArray) = _; rw [h1]
set_option maxHeartbeats 4000000 in
theorem dark (s : Sh) (p q : Int) (w : World) (hv : validB s = false) : Calls Try.prog 4 #[sagg s, .int .i64 p, .int .i64 q] w fun e w' => e = .returned (.bool true) ∧ Below w.heap.size w w' := by
  have kv := fun W => valid_any s W
  have kp := fun W => put_bad s hv W
  rw [hv] at kv
  have ka := fun W => SU.alive_any W
  have hbn := Blk.new w TSh (scells s)
  have hb0 := belowNew (belowSame w) (.cells (scells s) TSh)
  obtain ⟨W0, hW0⟩ : ∃ W0, w.alloc (.cells (scells s) TSh) = W0 := ⟨_, rfl⟩
  rw [hW0] at hbn hb0
  have c0 : W0.cell? ⟨w.heap.size, 0, none⟩ = some (.int .i64 s.n) := hbn.cell 0
  have c1 : W0.cell? ⟨w.heap.size, 1, none⟩ = some (.int .i64 s.b) := hbn.cell 1
  have c2 : W0.cell? ⟨w.heap.size, 2, none⟩ = some (.int .i64 s.l) := hbn.cell 2
  have c3 : W0.cell? ⟨w.heap.size, 3, none⟩ = some (.int .i64 s.c) := hbn.cell 3
  have c4 : W0.cell? ⟨w.heap.size, 4, none⟩ = some (.int .i64 s.e) := hbn.cell 4
  have HBN := Lib.hid hbn
  have HB0 := Lib.hid hb0
  have HW0 := Lib.hid (show w.alloc (.cells #[.int .i64 s.n, .int .i64 s.b, .int .i64 s.l, .int .i64 s.c, .int .i64 s.e] TSh) = W0 from hW0)
  clear hbn hb0 hW0
  unfold sagg at *
  clear hv
  go_enter Try.func4, Try.ntmps4
  go_upto_region 1 with fail
  rw [HW0.out]
  go_wp2_with (first
    | (go_at_call 10; refine (kp _).mono ?_; rintro x w1 ⟨rfl, hb1⟩; have BN1 := Lib.hid (HBN.out.below hb1 HBN.out.lt); have B1 := Lib.hid (belowThen HB0.out hb1); clear hb1)
    | (go_at_call 6; refine (ka _).mono ?_; rintro x w2 ⟨rfl, hb2⟩; have bk := BN1.out.below hb2 BN1.out.lt; have p0 : w2.cell? ⟨w.heap.size, 0, none⟩ = some (.int .i64 s.n) := bk.cell 0; have p1 : w2.cell? ⟨w.heap.size, 1, none⟩ = some (.int .i64 s.b) := bk.cell 1; have p2 : w2.cell? ⟨w.heap.size, 2, none⟩ = some (.int .i64 s.l) := bk.cell 2; have p3 : w2.cell? ⟨w.heap.size, 3, none⟩ = some (.int .i64 s.c) := bk.cell 3; have p4 : w2.cell? ⟨w.heap.size, 4, none⟩ = some (.int .i64 s.e) := bk.cell 4; have B2 := Lib.hid (belowThen B1.out hb2); clear hb2 bk)
    | (go_at_call 5; refine (kv _).mono ?_; rintro x w3 ⟨rfl, hb3⟩; have B3 := Lib.hid (belowThen B2.out hb3); clear hb3))
  exact end_ret (t := 6) (v := .bool true) (by kernel_rfl) rfl rfl ⟨rfl, B3.out⟩
set_option maxHeartbeats 4000000 in
theorem short (s : Sh) (p q : Int) (w : World) (hg : SU.Good s) (hp : p < 0) : Calls Try.prog 4 #[sagg s, .int .i64 p, .int .i64 q] w fun e w' => e = .returned (.bool true) ∧ Below w.heap.size w w' := by
  have ka := fun W => SU.alive_any W
  have hbn := Blk.new w TSh (scells s)
  have hb0 := belowNew (belowSame w) (.cells (scells s) TSh)
  obtain ⟨W0, hW0⟩ : ∃ W0, w.alloc (.cells (scells s) TSh) = W0 := ⟨_, rfl⟩
  rw [hW0] at hbn hb0
  have c0 : W0.cell? ⟨w.heap.size, 0, none⟩ = some (.int .i64 s.n) := hbn.cell 0
  have c1 : W0.cell? ⟨w.heap.size, 1, none⟩ = some (.int .i64 s.b) := hbn.cell 1
  have c2 : W0.cell? ⟨w.heap.size, 2, none⟩ = some (.int .i64 s.l) := hbn.cell 2
  have c3 : W0.cell? ⟨w.heap.size, 3, none⟩ = some (.int .i64 s.c) := hbn.cell 3
  have c4 : W0.cell? ⟨w.heap.size, 4, none⟩ = some (.int .i64 s.e) := hbn.cell 4
  have HBN := Lib.hid hbn
  have HB0 := Lib.hid hb0
  have HW0 := Lib.hid (show w.alloc (.cells #[.int .i64 s.n, .int .i64 s.b, .int .i64 s.l, .int .i64 s.c, .int .i64 s.e] TSh) = W0 from hW0)
  clear hbn hb0 hW0
  have kp := fun W => put_ok s hg W
  have kg := fun W => get_ok s hg W
  have hsz := superT_size s
  obtain ⟨T, hT⟩ : ∃ T, superT s = T := ⟨_, rfl⟩
  rw [hT] at kp kg hsz 
  have hs64 : (T.size : Int) = 64 := by omega
  have z0 : (s.n == s.n) = true := by simp
  have z1 : (s.b == s.b) = true := by simp
  have z2 : (s.l == s.l) = true := by simp
  have z3 : (s.c == s.c) = true := by simp
  have z4 : (s.e == s.e) = true := by simp
  have n1 : decide (p < 0) = true := by simpa using hp
  unfold sagg at *
  clear hg hp hT hsz
  go_enter Try.func4, Try.ntmps4
  go_upto_region 1 with fail
  rw [HW0.out]
  go_wp2_with (first
    | (go_at_call 10; refine (kp _).mono ?_; rintro x w1 ⟨rfl, hb1⟩; have BN1 := Lib.hid (HBN.out.below hb1 HBN.out.lt); have B1 := Lib.hid (belowThen HB0.out hb1); clear hb1)
    | (go_at_call 11; refine (kg _).mono ?_; rintro x w2 ⟨rfl, hb2⟩; have hb := belowNew (belowSame w2) (.cells (scells s) TSh); have bk := (BN1.out.below hb2 BN1.out.lt).below hb (BN1.out.below hb2 BN1.out.lt).lt; have r0 : (w2.alloc (.cells #[.int .i64 s.n, .int .i64 s.b, .int .i64 s.l, .int .i64 s.c, .int .i64 s.e] TSh)).cell? ⟨w.heap.size, 0, none⟩ = some (.int .i64 s.n) := bk.cell 0; have r1 : (w2.alloc (.cells #[.int .i64 s.n, .int .i64 s.b, .int .i64 s.l, .int .i64 s.c, .int .i64 s.e] TSh)).cell? ⟨w.heap.size, 1, none⟩ = some (.int .i64 s.b) := bk.cell 1; have r2 : (w2.alloc (.cells #[.int .i64 s.n, .int .i64 s.b, .int .i64 s.l, .int .i64 s.c, .int .i64 s.e] TSh)).cell? ⟨w.heap.size, 2, none⟩ = some (.int .i64 s.l) := bk.cell 2; have r3 : (w2.alloc (.cells #[.int .i64 s.n, .int .i64 s.b, .int .i64 s.l, .int .i64 s.c, .int .i64 s.e] TSh)).cell? ⟨w.heap.size, 3, none⟩ = some (.int .i64 s.c) := bk.cell 3; have r4 : (w2.alloc (.cells #[.int .i64 s.n, .int .i64 s.b, .int .i64 s.l, .int .i64 s.c, .int .i64 s.e] TSh)).cell? ⟨w.heap.size, 4, none⟩ = some (.int .i64 s.e) := bk.cell 4; have B2 := Lib.hid (belowThen (belowThen B1.out hb2) hb); clear hb2 hb bk)
    | (go_at_call 6; refine (ka _).mono ?_; rintro x w3 ⟨rfl, hb3⟩; have B3 := Lib.hid (belowThen B2.out hb3); clear hb3))
  exact end_ret (t := 6) (v := .bool true) (by kernel_rfl) rfl rfl ⟨rfl, B3.out⟩
set_option maxHeartbeats 8000000 in
theorem long (s : Sh) (q : Int) (k : Nat) (c : UInt8) (z : Bool) (u : Sh) (G : Int) (y : UInt8) (m : Nat) (w : World) (hg : SU.Good s) (hc : q % 256 = (c.toNat : Int)) (hz : ((c.toNat : Int) == 0) = z) (hG : z = true ∨ G = 6) (hk : k % 64 = m) (hml : m < 64) (hy : (superT s).data.toList[m]? = some y)
    (kb : ∀ W, Calls Try.prog 11 #[.string (setT (superT s) m (y ^^^ c))] W fun x w' => x = .returned (.tuple #[sagg u, .int .i64 G]) ∧ Below W.heap.size W w') : Calls Try.prog 4 #[sagg s, .int .i64 (k : Int), .int .i64 q] w fun e w' => e = .returned (.bool true) ∧ Below w.heap.size w w' := by
  have lenx : (superT s).data.toList.length = 64 := (Array.length_toList).trans (superT_size s)
  have x2 := xor_u8 y c
  obtain ⟨dy, hdy⟩ : ∃ d, y ^^^ c = d := ⟨_, rfl⟩
  rw [hdy] at x2 kb
  have d1 : ((k : Int) % 64) = (m : Int) := by omega
  have n1 : decide ((k : Int) < 0) = false := by simp
  have hd3 : (m : Int) < 64 := by omega
  have ka := fun W => SU.alive_any W
  have hbn := Blk.new w TSh (scells s)
  have hb0 := belowNew (belowSame w) (.cells (scells s) TSh)
  obtain ⟨W0, hW0⟩ : ∃ W0, w.alloc (.cells (scells s) TSh) = W0 := ⟨_, rfl⟩
  rw [hW0] at hbn hb0
  have c0 : W0.cell? ⟨w.heap.size, 0, none⟩ = some (.int .i64 s.n) := hbn.cell 0
  have c1 : W0.cell? ⟨w.heap.size, 1, none⟩ = some (.int .i64 s.b) := hbn.cell 1
  have c2 : W0.cell? ⟨w.heap.size, 2, none⟩ = some (.int .i64 s.l) := hbn.cell 2
  have c3 : W0.cell? ⟨w.heap.size, 3, none⟩ = some (.int .i64 s.c) := hbn.cell 3
  have c4 : W0.cell? ⟨w.heap.size, 4, none⟩ = some (.int .i64 s.e) := hbn.cell 4
  have HBN := Lib.hid hbn
  have HB0 := Lib.hid hb0
  have HW0 := Lib.hid (show w.alloc (.cells #[.int .i64 s.n, .int .i64 s.b, .int .i64 s.l, .int .i64 s.c, .int .i64 s.e] TSh) = W0 from hW0)
  clear hbn hb0 hW0
  have kp := fun W => put_ok s hg W
  have kg := fun W => get_ok s hg W
  have hsz := superT_size s
  obtain ⟨T, hT⟩ : ∃ T, superT s = T := ⟨_, rfl⟩
  rw [hT] at kp kg hsz kb hy lenx
  have hs64 : (T.size : Int) = 64 := by omega
  have z0 : (s.n == s.n) = true := by simp
  have z1 : (s.b == s.b) = true := by simp
  have z2 : (s.l == s.l) = true := by simp
  have z3 : (s.c == s.c) = true := by simp
  have z4 : (s.e == s.e) = true := by simp
  have kz := fun W => get_size (T.extract 0 63) (by simp [ByteArray.size_extract]; omega) W
  have HY := Lib.hid hy
  have LX := Lib.hid lenx
  have HM := Lib.hid hml
  have hz6 : (z = true ∧ True) ∨ (z = false ∧ (G == 6) = true) := by rcases hG with h | h <;> cases z <;> simp_all
  unfold sagg at *
  have cv1 := fun W => Lib.run_convert_string_bytes (P := Try.prog) W 9 37 5 T Try.underlying9 Try.underlying37 Try.underlying5
  clear hdy lenx hy hml hg hT hsz hk hG
  go_enter Try.func4, Try.ntmps4
  go_upto_region 1 with fail
  rw [HW0.out]
  go_upto_region 8 with (first
    | (go_at_call 10; refine (kp _).mono ?_; rintro x w1 ⟨rfl, hb1⟩; have BN1 := Lib.hid (HBN.out.below hb1 HBN.out.lt); have B1 := Lib.hid (belowThen HB0.out hb1); clear hb1)
    | (go_at_call 11; refine (kg _).mono ?_; rintro x w2 ⟨rfl, hb2⟩; have hb := belowNew (belowSame w2) (.cells (scells s) TSh); have bk := (BN1.out.below hb2 BN1.out.lt).below hb (BN1.out.below hb2 BN1.out.lt).lt; have r0 : (w2.alloc (.cells #[.int .i64 s.n, .int .i64 s.b, .int .i64 s.l, .int .i64 s.c, .int .i64 s.e] TSh)).cell? ⟨w.heap.size, 0, none⟩ = some (.int .i64 s.n) := bk.cell 0; have r1 : (w2.alloc (.cells #[.int .i64 s.n, .int .i64 s.b, .int .i64 s.l, .int .i64 s.c, .int .i64 s.e] TSh)).cell? ⟨w.heap.size, 1, none⟩ = some (.int .i64 s.b) := bk.cell 1; have r2 : (w2.alloc (.cells #[.int .i64 s.n, .int .i64 s.b, .int .i64 s.l, .int .i64 s.c, .int .i64 s.e] TSh)).cell? ⟨w.heap.size, 2, none⟩ = some (.int .i64 s.l) := bk.cell 2; have r3 : (w2.alloc (.cells #[.int .i64 s.n, .int .i64 s.b, .int .i64 s.l, .int .i64 s.c, .int .i64 s.e] TSh)).cell? ⟨w.heap.size, 3, none⟩ = some (.int .i64 s.c) := bk.cell 3; have r4 : (w2.alloc (.cells #[.int .i64 s.n, .int .i64 s.b, .int .i64 s.l, .int .i64 s.c, .int .i64 s.e] TSh)).cell? ⟨w.heap.size, 4, none⟩ = some (.int .i64 s.e) := bk.cell 4; have B2 := Lib.hid (belowThen (belowThen B1.out hb2) hb); clear hb2 hb bk))
  obtain ⟨WB, hWB⟩ : ∃ WB, w2.alloc (.cells #[.int .i64 s.n, .int .i64 s.b, .int .i64 s.l, .int .i64 s.c, .int .i64 s.e] TSh) = WB := ⟨_, rfl⟩
  rw [hWB] at B2 ⊢
  have hsw : WB.heap.size = w2.heap.size + 1 := by rw [← hWB]; simp
  have b4 := below_bytes WB 5 T
  have k4 := cells_new WB 5 T
  have B4 := Lib.hid (belowThen B2.out b4)
  have hg1 : w.heap.size ≤ w2.heap.size + 1 := by have := B2.out.size; omega
  generalize Lib.bytesWorld WB 5 T = w4 at b4 k4 B4 ⊢
  generalize grownCap WB T.size 0 5 = cap2
  rw [hsw] at k4
  obtain ⟨g2, hgg⟩ : ∃ g, w2.heap.size + 1 = g := ⟨_, rfl⟩
  rw [hgg] at hsw k4 hg1
  try rw [hsw]
  try rw [hgg]
  have e2 := (k4.2 m y HY.out).1
  have e2' := (k4.2 m y HY.out).2
  have KK := Lib.hid k4
  clear b4 hgg k4 cv1 hsw r0 r1 r2 r3 r4 B2 hWB
  go_upto_region 9 with fail
  have L2 := Lib.hid (KK.out.set_ m (by rw [LX.out]; exact HM.out) dy)
  have B5 := Lib.hid (show Below w.heap.size w (w4.setCell ⟨g2, m, none⟩ (.int .u8 (dy.toNat : Int))) from B4.out.setCell hg1 _)
  generalize w4.setCell ⟨g2, m, none⟩ (.int .u8 (dy.toNat : Int)) = W5 at L2 B5 ⊢
  have cvA := L2.out.str (P := Try.prog) 37 9 5 Try.underlying37 Try.underlying5 Try.underlying9 T.size cap2 (by rw [List.length_set, LX.out]; omega)
  rw [show (⟨(T.data.toList.set m dy).toArray⟩ : ByteArray) = setT T m dy from rfl] at cvA
  generalize setT T m dy = Y1 at cvA kb
  clear e2 e2' x2 KK B4 L2
  go_upto_region 10 with (go_at_call 11; refine (kb _).mono ?_; rintro x w6 ⟨rfl, hb6⟩; have B6 := Lib.hid (belowNew (belowThen B5.out hb6) (.cells #[.int .i64 u.n, .int .i64 u.b, .int .i64 u.l, .int .i64 u.c, .int .i64 u.e] TSh)); clear hb6)
  rcases hz6 with ⟨rfl, _⟩ | ⟨rfl, h6⟩
  · go_wp2_with (first
      | (go_at_call 11; refine (kz _).mono ?_; rintro x w7 ⟨rfl, hb7⟩; have B7 := Lib.hid (belowNew (belowThen B6.out hb7) (.cells #[.int .i64 0, .int .i64 0, .int .i64 0, .int .i64 0, .int .i64 0] TSh)); clear hb7)
      | (go_at_call 6; refine (ka _).mono ?_; rintro x w8 ⟨rfl, hb8⟩; have B8 := Lib.hid (belowThen B7.out hb8); clear hb8))
    exact end_ret (t := 6) (v := .bool true) (by kernel_rfl) rfl rfl ⟨rfl, B8.out⟩
  · go_wp2_with (first
      | (go_at_call 11; refine (kz _).mono ?_; rintro x w7 ⟨rfl, hb7⟩; have B7 := Lib.hid (belowNew (belowThen B6.out hb7) (.cells #[.int .i64 0, .int .i64 0, .int .i64 0, .int .i64 0, .int .i64 0] TSh)); clear hb7)
      | (go_at_call 6; refine (ka _).mono ?_; rintro x w8 ⟨rfl, hb8⟩; have B8 := Lib.hid (belowThen B7.out hb8); clear hb8))
    exact end_ret (t := 6) (v := .bool true) (by kernel_rfl) rfl rfl ⟨rfl, B8.out⟩
theorem walk (s : Sh) (p q : Int) (w : World) (g0 : ShOk s) (g1 : (Lit.int .i64 p).wf = true) (g2 : (Lit.int .i64 q).wf = true) : Calls Try.prog 4 #[sagg s, .int .i64 p, .int .i64 q] w fun e w' => e = .returned (.bool true) ∧ Below w.heap.size w w' := by
  have hp := bounds_i64 g1
  cases hv : validB s
  · exact dark s p q w hv
  · have hg := (valid_iff s).1 hv
    by_cases hn : p < 0
    · exact short s p q w hg hn
    · obtain ⟨k, rfl⟩ : ∃ k : Nat, p = (k : Int) := ⟨p.toNat, by omega⟩
      obtain ⟨c, hc⟩ : ∃ c : UInt8, q % 256 = (c.toNat : Int) := ⟨UInt8.ofNat (q % 256).toNat, by simp; omega⟩
      have lenx : (superT s).data.toList.length = 64 := (Array.length_toList).trans (superT_size s)
      obtain ⟨y, hy⟩ : ∃ y, (superT s).data.toList[k % 64]? = some y := ⟨_, List.getElem?_eq_getElem (by rw [lenx]; omega)⟩
      by_cases c0 : c = 0
      · subst c0
        exact long s q k 0 true s 0 y (k % 64) w hg hc rfl (Or.inl rfl) rfl (by omega) hy (fun W => by rw [show y ^^^ 0 = y by simp, same_set _ _ _ hy]; exact get_ok s hg W)
      · have hne : ∀ z : UInt8, z ≠ z ^^^ c := fun z e => c0 (by
          have := congrArg (z ^^^ ·) e
          simpa [← UInt8.xor_assoc] using this.symm)
        have f2 := fitsR_set (superB s) 64 (by omega) (by rw [superB_size]; omega) (k % 64) (by omega) (y ^^^ c) (by
          show (superT s).data.toList[k % 64]? ≠ _
          rw [hy]; intro e; exact hne y (Option.some.inj e))
        refine long s q k c false ⟨0, 0, 0, 0, 0⟩ 6 y (k % 64) w hg hc ?_ (Or.inr rfl) rfl (by omega) hy (fun W => get_bad (setT (superT s) (k % 64) (y ^^^ c)) (by rw [setT_size, superT_size]) f2 W)
        rw [beq_eq_false_iff_ne]
        intro h
        exact c0 (UInt8.toNat_inj.1 (by show c.toNat = 0; omega))
end Go.Proofs.Ytacogpogplionaa.superBack
