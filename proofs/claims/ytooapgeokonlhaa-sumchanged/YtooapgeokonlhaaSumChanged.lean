/- SumChanged: the walk. No condition. -/
import Derived.Test.YtooapgeokonlhaaSumSet
import Derived.Test.YtooapgeokonlhaaSumLaw
import Derived.Test.YtooapgeokonlhaaBytes
import Derived.Deep.DeepCutAuto
import Derived.Deep.CutBlock
import Derived.Outline
namespace Go.Proofs.Ytooapgeokonlhaa.sumChanged
open Go.RowKit Go.Proofs.Ytooapgeokonlhaa.SM
set_option linter.unusedVariables false

set_option maxHeartbeats 1000000 in
set_option maxRecDepth 100000 in
theorem walk (s : ByteArray) (n at_ by_ : Int) (w : World) (_g0 : s.size ≤ maxLen) (g1 : (Lit.int .i64 n).wf = true) (g2 : (Lit.int .i64 at_).wf = true) (g3 : (Lit.int .i64 by_).wf = true) :
    Calls Try.prog 5 #[.string s, .int .i64 n, .int .i64 at_, .int .i64 by_] w fun e w' => e = .returned (.bool true) ∧ Below w.heap.size w w' := by
  unfold maxLen at _g0
  have hbn := bounds_i64 g1
  have hba := bounds_i64 g2
  by_cases c1 : (2000 : Int) < s.size
  · go_enter Try.func5, Try.ntmps5
    go_wp2_with (go_at_call 8; refine (alive_any _).mono ?_; rintro e w1 ⟨rfl, hb⟩)
    go_ret
    exact ⟨rfl, hb⟩
  by_cases c2 : n < 4
  · go_enter Try.func5, Try.ntmps5
    go_wp2_with (go_at_call 8; refine (alive_any _).mono ?_; rintro e w1 ⟨rfl, hb⟩)
    go_ret
    exact ⟨rfl, hb⟩
  by_cases c3 : 3000 < n
  · go_enter Try.func5, Try.ntmps5
    go_wp2_with (go_at_call 8; refine (alive_any _).mono ?_; rintro e w1 ⟨rfl, hb⟩)
    go_ret
    exact ⟨rfl, hb⟩
  by_cases c4 : n - 4 < (s.size : Int)
  · go_enter Try.func5, Try.ntmps5
    go_wp2_with (go_at_call 8; refine (alive_any _).mono ?_; rintro e w1 ⟨rfl, hb⟩)
    go_ret
    exact ⟨rfl, hb⟩
  by_cases c5 : at_ < 0
  · go_enter Try.func5, Try.ntmps5
    go_wp2_with (go_at_call 8; refine (alive_any _).mono ?_; rintro e w1 ⟨rfl, hb⟩)
    go_ret
    exact ⟨rfl, hb⟩
  by_cases c6 : by_ % 256 = 0
  · have c6' : ((by_ % 256 : Int) == 0) = true := by simp [c6]
    have C6 := Lib.hid c6
    clear c6
    go_enter Try.func5, Try.ntmps5
    go_wp2_with (go_at_call 8; refine (alive_any _).mono ?_; rintro e w1 ⟨rfl, hb⟩)
    go_ret
    exact ⟨rfl, hb⟩
  have c6' : ((by_ % 256 : Int) == 0) = false := by simpa using c6
  obtain ⟨c, hc⟩ : ∃ c : UInt8, by_ % 256 = (c.toNat : Int) := ⟨UInt8.ofNat (by_ % 256).toNat, by simp; omega⟩
  have hc0 : c ≠ 0 := fun e => c6 (by rw [hc, e]; rfl)
  obtain ⟨N, rfl⟩ : ∃ N : Nat, n = (N : Int) := ⟨n.toNat, by omega⟩
  obtain ⟨k, rfl⟩ : ∃ k : Nat, at_ = (k : Int) := ⟨at_.toNat, by omega⟩
  obtain ⟨o1, o2, _, _⟩ := open_seal s
  obtain ⟨r1, _, _, _⟩ := read_stamp s N (by omega) (by omega)
  have kseal := seal_any s (by omega)
  have kst := stamp_ok s N (by omega) (by omega) (by omega)
  -- where the byte stands in each
  obtain ⟨p, hp⟩ : ∃ p, k % (sealT s).size = p := ⟨_, rfl⟩
  obtain ⟨q, hq⟩ : ∃ q, k % (stampT s N).size = q := ⟨_, rfl⟩
  have hpl : p < (sealT s).size := by rw [← hp]; exact Nat.mod_lt _ (by omega)
  have hql : q < (stampT s N).size := by rw [← hq]; exact Nat.mod_lt _ (by omega)
  have lenx : ∀ b : ByteArray, b.data.toList.length = b.size := fun b => Array.length_toList
  obtain ⟨x, hx⟩ : ∃ x, (sealT s).data.toList[p]? = some x := ⟨_, List.getElem?_eq_getElem (by rw [lenx]; exact hpl)⟩
  obtain ⟨y, hy⟩ : ∃ y, (stampT s N).data.toList[q]? = some y := ⟨_, List.getElem?_eq_getElem (by rw [lenx]; exact hql)⟩
  have hne : ∀ z : UInt8, z ≠ z ^^^ c := fun z e => hc0 (by
    have := congrArg (z ^^^ ·) e
    simpa [← UInt8.xor_assoc] using this.symm)
  have f1 := fits_set s p (by omega) (x ^^^ c) (by rw [hx]; intro e; exact hne x (Option.some.inj e))
  have f2 := fitsR_set s N (by omega) (by omega) q (by omega) (y ^^^ c) (by rw [hy]; intro e; exact hne y (Option.some.inj e))
  have kopen := open_bad (setT (sealT s) p (x ^^^ c)) (by rw [setT_size]; omega) (by rw [setT_size, o2]; omega) f1
  have kread := read_bad (setT (stampT s N) q (y ^^^ c)) (N - 4) (by rw [setT_size, r1]) (by rw [setT_size, r1]; omega) f2
  have kshort := open_short (s.extract 0 (min (s.size : Int) 3).toNat) (by simp; omega)
  obtain ⟨X, hX⟩ : ∃ X, sealT s = X := ⟨_, rfl⟩
  obtain ⟨T, hT⟩ : ∃ T, stampT s N = T := ⟨_, rfl⟩
  rw [hX] at kseal kopen hp hpl hx o1 o2
  rw [hT] at kst kread hq hql hy r1
  have d1 : ((k : Int) % (X.size : Int)) = (p : Int) := by rw [← hp]; simp
  have d2 : ((k : Int) % (T.size : Int)) = (q : Int) := by rw [← hq]; simp
  have d3 : (p : Int) < (X.size : Int) := by omega
  have d4 : (q : Int) < (T.size : Int) := by omega
  have d5 : ¬ (X.size : Int) < 4 := by omega
  have d6 : ¬ (T.size : Int) < 4 := by omega
  have d7 : (X.size : Int) ≤ 4000 := by omega
  have d8 : (T.size : Int) ≤ 4000 := by omega
  have x1 := xor_u8 x c
  have x2 := xor_u8 y c
  obtain ⟨dx, hdx⟩ : ∃ d, x ^^^ c = d := ⟨_, rfl⟩
  obtain ⟨dy, hdy⟩ : ∃ d, y ^^^ c = d := ⟨_, rfl⟩
  rw [hdx] at x1 kopen
  rw [hdy] at x2 kread
  have HX := Lib.hid hx
  have HY := Lib.hid hy
  have LX := Lib.hid (lenx X)
  have LT := Lib.hid (lenx T)
  have HP := Lib.hid hpl
  have HQ := Lib.hid hql
  have cv1 := fun W => Lib.run_convert_string_bytes (P := Try.prog) W 9 37 5 X Try.underlying9 Try.underlying37 Try.underlying5
  have cv2 := fun W => Lib.run_convert_string_bytes (P := Try.prog) W 9 37 5 T Try.underlying9 Try.underlying37 Try.underlying5
  clear hdx hdy hX hT hx hy hp hq hpl hql lenx hne f1 f2 o1 o2 r1 c6 hc0
  go_enter Try.func5, Try.ntmps5
  go_wp2_with (go_at_call 18; refine (kseal _).mono ?_; rintro e w1 ⟨rfl, hw1⟩)
  have b2 := below_bytes w1 5 X
  have k2 := cells_new w1 5 X
  generalize Lib.bytesWorld w1 5 X = w2 at b2 k2 ⊢
  generalize grownCap w1 X.size 0 5 = cap1
  have hg1 := k2.1
  have HG0 := hw1.size
  refine (kst _).mono ?_; rintro e w3 ⟨rfl, hw3⟩
  have B3 := Lib.hid (belowThen (belowThen hw1 b2) hw3)
  have K3 := Lib.hid (k2.kept hw3)
  have hg1' : w1.heap.size < w3.heap.size := Nat.lt_of_lt_of_le hg1 hw3.size
  obtain ⟨g1, hgg⟩ : ∃ g, w1.heap.size = g := ⟨_, rfl⟩
  rw [hgg] at K3 hg1' ⊢
  have HG1 : w.heap.size ≤ g1 := by rw [← hgg]; exact HG0
  clear b2 k2 hw1 hw3 hg1 hgg kst kseal cv1
  go_upto_region 6 with fail
  have b4 := below_bytes w3 5 T
  have k4 := cells_new w3 5 T
  generalize Lib.bytesWorld w3 5 T = w4 at b4 k4 ⊢
  generalize grownCap w3 T.size 0 5 = cap2
  have K4 := K3.out.kept b4
  have B4 := Lib.hid (belowThen B3.out b4)
  obtain ⟨g2, hgg⟩ : ∃ g, w3.heap.size = g := ⟨_, rfl⟩
  rw [hgg] at k4 hg1' ⊢
  have e1 := (K4.2 p x HX.out).1
  have e1' := (K4.2 p x HX.out).2
  have e2 := (k4.2 q y HY.out).1
  have e2' := (k4.2 q y HY.out).2
  have KK := Lib.hid (And.intro K4 k4)
  have hgW1 : w.heap.size ≤ g1 := HG1
  have hgW2 : w.heap.size ≤ g2 := by omega
  have hne : g1 ≠ g2 := by omega
  clear b4 hgg K4 k4 cv2 B3 K3
  go_upto_region 10 with fail
  have L1 := Lib.hid ((KK.out.1.set_ p (by rw [LX.out]; exact HP.out) dx).far (q := ⟨g2, q, none⟩) (fun e => hne e.symm) (.int .u8 (dy.toNat : Int)))
  have L2 := Lib.hid ((KK.out.2.far (q := ⟨g1, p, none⟩) hne (.int .u8 (dx.toNat : Int))).set_ q (by rw [LT.out]; exact HQ.out) dy)
  have B5 := Lib.hid (show Below w.heap.size w ((w4.setCell ⟨g1, p, none⟩ (.int .u8 (dx.toNat : Int))).setCell ⟨g2, q, none⟩ (.int .u8 (dy.toNat : Int))) from (B4.out.setCell hgW1 _).setCell hgW2 _)
  generalize (w4.setCell ⟨g1, p, none⟩ (.int .u8 (dx.toNat : Int))).setCell ⟨g2, q, none⟩ (.int .u8 (dy.toNat : Int)) = W5 at L1 L2 B5 ⊢
  have cvA := L1.out.str (P := Try.prog) 37 9 5 Try.underlying37 Try.underlying5 Try.underlying9 X.size cap1 (by rw [List.length_set, LX.out])
  rw [show (⟨(X.data.toList.set p dx).toArray⟩ : ByteArray) = setT X p dx from rfl] at cvA
  generalize setT X p dx = Y1 at cvA kopen
  have cvB : ∀ w6 : World, Below W5.heap.size W5 w6 → (convert 37 9 (.slice (some ⟨g2, 0, none⟩) T.size cap2)).run Try.prog w6 = .ok (.string (setT T q dy)) w6 := fun w6 h6 =>
    (L2.out.kept h6).str (P := Try.prog) 37 9 5 Try.underlying37 Try.underlying5 Try.underlying9 T.size cap2 (by rw [List.length_set, LT.out])
  generalize setT T q dy = Y2 at cvB kread
  have CVB := Lib.hid cvB
  clear e1 e1' e2 e2' x1 x2 KK B4 L1 L2 cvB
  go_wp2_with (go_at_call 10; refine (kopen _).mono ?_; rintro e w6 ⟨rfl, hw6⟩; have cv6 := CVB.out w6 hw6)
  go_wp2_with (go_at_call 12; refine (kread _).mono ?_; rintro e w7 ⟨rfl, hw7⟩)
  go_wp2_with (first
    | (go_at_call 10; refine (kshort _).mono ?_; rintro e w' ⟨rfl, rfl⟩)
    | (go_at_call 8; refine (alive_any _).mono ?_; rintro e w8 ⟨rfl, hw8⟩))
  go_ret
  exact ⟨rfl, belowThen (belowThen (belowThen B5.out hw6) hw7) hw8⟩
end Go.Proofs.Ytooapgeokonlhaa.sumChanged
