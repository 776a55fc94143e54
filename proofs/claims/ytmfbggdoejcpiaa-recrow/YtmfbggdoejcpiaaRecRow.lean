/- RecRow: the walk. No condition. -/
import Derived.Test.YtmfbggdoejcpiaaRec15
import Derived.Test.YtmfbggdoejcpiaaRegInv2
import Derived.Test.YtmfbggdoejcpiaaRegTail
namespace Go.Proofs.Ytmfbggdoejcpiaa.recRow
open Go.RowKit Go.Proofs.Ytmfbggdoejcpiaa.WI Go.Proofs.Ytmfbggdoejcpiaa.SM Go.Proofs.Ytmfbggdoejcpiaa.RC
set_option linter.unusedVariables false
set_option linter.unusedSimpArgs false

theorem infRe : (Try.prog.info? 25).map (fun i => (i.zero, i.size, i.bytes)) = some (some (.agg #[.int .u64 0, .int .u64 0, .slice none 0 0]), 3, 40) := by kernel_rfl
theorem row_grown {w wr w5 w6 : World} {a : Option Addr} {k c : Nat} {xs : List Value} (h : wr.ownsRow w.heap.size 25 3 (.slice a k c) k xs) (hA : Below w.heap.size w w5) (hg : w5.grownBy w6 (Value.slice a 0 0).ownBlock) : Below w.heap.size w w6 := by
  refine hA.trans ⟨hg.os, hg.tape, hg.output, hg.size, fun j hj => hg.block j (by have := hA.size; omega) (fun e => ?_)⟩
  have := (h.lt j ((own_blk_ _ _ _).trans e.symm)).1
  omega
set_option maxRecDepth 100000 in
set_option maxHeartbeats 16000000 in
theorem walk (a : Option Addr) (len cap : Nat) (rs : List Re) (w : World) (h : RecsIs w a len cap rs) :
    Calls Try.prog 6 #[.slice a len cap] w fun e w' => e = .returned (.bool true) ∧ Below w.heap.size w w' := by
  obtain ⟨i0, hi, hz0, hz1, hz2⟩ := info_parts infRe
  have ka := fun W => RC.alive_any W
  have hlc := h.1
  have hcm := h.2.1
  have hln := h.2.2.1
  unfold maxLen at hcm
  by_cases h8 : 8 < len
  · have n1 : decide ((8 : Int) < (len : Int)) = true := by simp; omega
    clear h
    go_enter Try.func6, Try.ntmps6
    go_wp2_with (go_at_call 8; refine (ka _).mono ?_; rintro x w2 ⟨rfl, hb2⟩)
    exact end_ret (t := 2) (v := .bool true) (by kernel_rfl) rfl rfl ⟨rfl, hb2⟩
  have n1 : decide ((8 : Int) < (len : Int)) = false := by simp; omega
  have HX := Lib.hid h
  have HN := Lib.hid hln
  clear h hln
  go_enter Try.func6, Try.ntmps6
  go_wp2_with fail
  go_loopw [3, 4, 5, 6, 7] (fun s v ix _ _ wr => ∃ (k g : Nat) (d : Option Addr) (c : Nat), ix = .int .i64 (k : Int) ∧ s = .string (catR (goodR (rs.take k))) ∧ v = .slice d g c ∧ k ≤ len ∧ Hid (g = (goodR (rs.take k)).length ∧ wr.ownsRow w.heap.size 25 3 (.slice d g c) g ((goodR (rs.take k)).flatMap rval) ∧ Below w.heap.size w wr)) (fun _ _ i _ _ _ => len - (intOf i).toNat)
  case atStart => exact ⟨0, 0, none, 0, rfl, rfl, rfl, by omega, Lib.hid ⟨rfl, World.ownsRow_nil _ _ _ _, belowSame w⟩⟩
  case round =>
    obtain ⟨k, g, d, c, rfl, rfl, rfl, hk, HR⟩ := hrel
    have hgl := good_len rs k
    have hgk := HR.out.1
    by_cases hlt : k < len
    · obtain ⟨b, off, r, rfl, hr, hok, hbl, hkc, c0, c1, c2⟩ := (HX.out.old HR.out.2.2).at_ hlt
      have e1 : IntKind.i64.wrap ((k : Int) + 1) = (k : Int) + 1 := IntWalk.i64_in _ (by omega)
      have kl := light_any 20 2500 (by decide) wr r.A r.n r.c r.xs hok.ims
      have HC0 := Lib.hid c0
      have HC1 := Lib.hid c1
      have HC2 := Lib.hid c2
      have HBL := Lib.hid hbl
      have hal := (hok.ims.2.2.1)
      cases hL : lightB 20 2500 r.xs with
      | false =>
        rw [hL] at kl
        clear hok hr hbl hgl hgk hL hal c0 c1 HC0 HC1 HC2 HBL
        go_wp2_with (first
          | (go_at_call 7; refine kl.mono ?_; rintro x w1 ⟨rfl, hb1⟩; have HB1 := Lib.hid hb1; clear hb1)
          | (go_at_call 8; refine (ka _).mono ?_; rintro x w2 ⟨rfl, hb2⟩; have HB2 := Lib.hid (belowThen (belowThen HR.out.2.2 HB1.out) hb2); clear hb2))
        exact end_ret (t := 2) (v := .bool true) (by kernel_rfl) rfl rfl ⟨rfl, HB2.out⟩
      | true =>
        rw [hL] at kl
        have HOK := Lib.hid hok
        by_cases hw : wrongE r.e r.l r.xs = 0
        · have hfit := wrong_iff.1 hw
          have kp := fun W h => put_ok r.e r.l r.A r.n r.c r.xs W h hfit hok.e hok.l
          have hps := putT_size (e := r.e) (l := r.l) (xs := r.xs) rfl rfl
          have hs2 := secsN_le hfit.n2
          have hcs := catR_size (goodR (rs.take k)) (fun x hx => (good_fits hx).2.n2)
          have hcat := catR_snoc (goodR (rs.take k)) r
          have hgs := good_snoc_ok rs k r hr hw
          obtain ⟨P, hP⟩ : ∃ P, putT r.e r.l r.xs = P := ⟨_, rfl⟩
          rw [hP] at kp hps hcat
          obtain ⟨C, hC⟩ : ∃ C, catR (goodR (rs.take k)) = C := ⟨_, rfl⟩
          rw [hC] at hcat hcs ⊢
          have hz : ¬ 9223372036854775807 < C.size + P.size := by omega
          have HCAT : Hid (catR (goodR (rs.take (k + 1))) = C ++ P) := Lib.hid (by rw [hgs, hcat])
          have HGS := Lib.hid hgs
          have hfl : (goodR (rs.take (k + 1))).flatMap rval = (goodR (rs.take k)).flatMap rval ++ rval r := by rw [hgs, List.flatMap_append]; simp
          have HFL := Lib.hid hfl
          have hgm : g + 1 ≤ maxLen := by unfold maxLen; omega
          have hgm2 : (g + 1) * 40 ≤ 140737488355328 := by omega
          clear hok hr hbl hgl hL hal hw hfit hps hs2 hcs hcat hgs hP hC hfl hgk c0 c1
          go_upto_region 13 with (first
            | (go_at_call 7; refine kl.mono ?_; rintro x w1 ⟨rfl, hb1⟩; have f0 := (hb1.cell (p := ⟨b, off + k * 3, none⟩) HBL.out).trans HC0.out; have f1 := (hb1.cell (p := ⟨b, off + k * 3 + 1, none⟩) HBL.out).trans HC1.out; have f2 := (hb1.cell (p := ⟨b, off + k * 3 + 2, none⟩) HBL.out).trans HC2.out; have HB1 := Lib.hid hb1; clear hb1 c2)
            | (go_at_call 9; refine (kp _ (HOK.out.ims.old HB1.out)).mono ?_; rintro x w2 ⟨rfl, hb2⟩; have HB2 := Lib.hid (HB1.out.trans (hb2.mono HB1.out.size)); clear hb2 f0 f1 f2))
          have f0 := (HB2.out.cell (p := ⟨b, off + k * 3, none⟩) HBL.out).trans HC0.out
          have f1 := (HB2.out.cell (p := ⟨b, off + k * 3 + 1, none⟩) HBL.out).trans HC1.out
          have f2 := (HB2.out.cell (p := ⟨b, off + k * 3 + 2, none⟩) HBL.out).trans HC2.out
          have ho5 := (own_keeps HR.out.2.1 (Keeps.of_below HB2.out (fun _ => False)) (fun _ _ h => h)).alloc (.cells #[.int .u64 r.e, .int .u64 r.l, .slice r.A r.n r.c] 25)
          have hl5 : Lies (w2.alloc (.cells #[.int .u64 r.e, .int .u64 r.l, .slice r.A r.n r.c] 25)) 3 (some ⟨w2.heap.size, 0, none⟩) 1 (rval r) := by
            have := Lies.of_blk (Blk.new w2 25 #[.int .u64 r.e, .int .u64 r.l, .slice r.A r.n r.c])
            exact ⟨rfl, fun _ => this.2 (by simp)⟩
          have hw5 : w.heap.size ≤ (w2.alloc (.cells #[.int .u64 r.e, .int .u64 r.l, .slice r.A r.n r.c] 25)).heap.size := by
            have h1 := HR.out.2.2.size
            have h2 := HB2.out.size
            simp; omega
          have hA : Below w.heap.size w (w2.alloc (.cells #[.int .u64 r.e, .int .u64 r.l, .slice r.A r.n r.c] 25)) := belowNew (belowThen HR.out.2.2 HB2.out) _
          have HA := Lib.hid hA
          clear hA
          go_wp2_with (at_builtin; go_loud (refine wpList_append_lie _ rfl _ _ 44 rfl w.heap.size 25 i0 _ 3 40 Try.underlying44 hi hz0 hz1 hz2 rfl (by decide) d g c _ rfl ho5 (some ⟨w2.heap.size, 0, none⟩) 1 1 (rval r) rfl hl5 (by intro u hu; simp [rval] at hu; rcases hu with rfl | rfl | rfl <;> rfl) hgm hgm2 hw5 ?_); intro d6 c6 w6 ho6 hg6 hat6; go_loud (rw [← HFL.out] at ho6); go_loud (have HB6 := Lib.hid (row_grown HR.out.2.1 HA.out hg6)); have HO6 := Lib.hid ho6; clear ho6 hg6 hat6 ho5 hl5 hw5)
          go_roundw
          case rel => exact ⟨k + 1, g + 1, d6, c6, by go_num, by rw [HCAT.out], rfl, by omega, Lib.hid ⟨by rw [HGS.out, List.length_append, ← HR.out.1]; rfl, HO6.out, HB6.out⟩⟩
          case measure => simp [intOf]; omega
        · have kp := fun W h => put_bad r.e r.l r.A r.n r.c r.xs W h hw
          have hgs := good_snoc_bad rs k r hr hw
          have n3 : (wrongE r.e r.l r.xs == 0) = false := by simpa using hw
          obtain ⟨E, hE⟩ : ∃ E, wrongE r.e r.l r.xs = E := ⟨_, rfl⟩
          rw [hE] at kp n3
          have HGS := Lib.hid hgs
          clear hok hr hbl hgl hL hal hw hgs hE hgk c0 c1
          go_wp2_with (first
            | (go_at_call 7; refine kl.mono ?_; rintro x w1 ⟨rfl, hb1⟩; have f0 := (hb1.cell (p := ⟨b, off + k * 3, none⟩) HBL.out).trans HC0.out; have f1 := (hb1.cell (p := ⟨b, off + k * 3 + 1, none⟩) HBL.out).trans HC1.out; have f2 := (hb1.cell (p := ⟨b, off + k * 3 + 2, none⟩) HBL.out).trans HC2.out; have HB1 := Lib.hid hb1; clear hb1 c2)
            | (go_at_call 9; refine (kp _ (HOK.out.ims.old HB1.out)).mono ?_; rintro x w2 ⟨rfl, hb2⟩; have HB2 := Lib.hid (HB1.out.trans (hb2.mono HB1.out.size)); clear hb2 f0 f1 f2))
          go_roundw
          case rel => exact ⟨k + 1, g, d, c, by go_num, by rw [HGS.out], rfl, by omega, Lib.hid ⟨by rw [HGS.out]; exact HR.out.1, by rw [HGS.out]; exact own_keeps HR.out.2.1 (Keeps.of_below HB2.out (fun _ => False)) (fun _ _ h => h), belowThen HR.out.2.2 HB2.out⟩⟩
          case measure => simp [intOf]; omega
    · obtain rfl : k = len := by omega
      have htk : rs.take k = rs := List.take_of_length_le (by have := HN.out; omega)
      rw [htk] at HR hgl hgk ⊢
      obtain ⟨G, hG⟩ : ∃ G, goodR rs = G := ⟨_, rfl⟩
      have hfit : ∀ x ∈ G, x ∈ rs ∧ Fits x.e x.l x.xs := fun x hx => by rw [← hG] at hx; exact good_fits hx
      rw [hG] at HR hgl hgk ⊢
      have HFT := Lib.hid hfit
      have g8 : g ≤ 8 := by omega
      have HGK := Lib.hid hgk
      clear htk hG hfit hgl hgk
      obtain ⟨WQ, rfl⟩ : ∃ WQ, WQ = wr := ⟨wr, rfl⟩
      go_wp2_with fail
      go_loopw [3, 8, 9, 10, 11] (fun s ix _ _ _ w2 => ∃ i : Nat, i ≤ g ∧ ix = .int .i64 (i : Int) ∧ s = .string (catR (G.drop i)) ∧ Hid (Below WQ.heap.size WQ w2)) (fun _ i _ _ _ _ => g - (intOf i).toNat)
      case atStart => exact ⟨0, by omega, rfl, by rw [List.drop_zero], Lib.hid (belowSame WQ)⟩
      case round =>
        obtain ⟨i, hig, rfl, rfl, HB⟩ := hrel
        by_cases hlt : i < g
        · obtain ⟨r, hr⟩ : ∃ r, G[i]? = some r := ⟨_, List.getElem?_eq_getElem (by have := HGK.out; omega)⟩
          have hrm : r ∈ G := List.mem_of_getElem? hr
          obtain ⟨hrs, hf⟩ := HFT.out r hrm
          have hro := HX.out.2.2.2.1 r hrs
          have hnx := hro.ims.2.2.1
          have hn1 := hf.n1
          have hn2 := hf.n2
          have hps := putT_size (e := r.e) (l := r.l) (xs := r.xs) hnx rfl
          have hcs := catR_size (G.drop i) (fun x hx => (HFT.out x (List.mem_of_mem_drop hx)).2.n2)
          rw [List.length_drop, ← HGK.out] at hcs
          have hil : i < G.length := by have := HGK.out; omega
          have hdr : G.drop i = r :: G.drop (i + 1) := by
            rw [List.drop_eq_getElem_cons hil]
            congr 1
            exact Option.some.inj ((List.getElem?_eq_getElem hil).symm.trans hr)
          have hcat : catR (G.drop i) = putT r.e r.l r.xs ++ catR (G.drop (i + 1)) := by rw [hdr]; rfl
          obtain ⟨n, hn⟩ : ∃ n, r.n = n := ⟨_, rfl⟩
          rw [hn] at hro hnx hps
          obtain ⟨m, hm⟩ : ∃ m, secsN n = m := ⟨_, rfl⟩
          rw [hm] at hps
          have hm155 := secsN_le (n := n) (by omega)
          rw [hm] at hm155
          rw [hcat] at hcs
          have kg := fun W => get_ok (putT r.e r.l r.xs ++ catR (G.drop (i + 1))) (by omega) r.e r.l r.xs n m hnx hm hf hro.ims.2.2.2.1 hro.e hro.l (by rw [ByteArray.size_append, hps]; omega) (by rw [← hps]; exact ByteArray.extract_append_eq_left rfl) W
          obtain ⟨S2, hS2⟩ : ∃ S, catR (G.drop (i + 1)) = S := ⟨_, rfl⟩
          rw [hS2] at hcat hcs kg
          have hS2s : (putT r.e r.l r.xs ++ S2).size = 64 * m + S2.size := by rw [ByteArray.size_append, hps]
          have hsl : (putT r.e r.l r.xs ++ S2).extract (64 * m) (putT r.e r.l r.xs ++ S2).size = S2 := by rw [← hps]; exact ByteArray.extract_append_eq_right rfl (by simp)
          obtain ⟨S, hS⟩ : ∃ S, putT r.e r.l r.xs ++ S2 = S := ⟨_, rfl⟩
          rw [hS] at hcat hcs kg hS2s hsl
          rw [hcat]
          have hsz : decide ((S.size : Int) < 64 * (m : Int)) = false := decide_eq_false (by omega)
          have hs1 : (0 : Int) ≤ 64 * (m : Int) := by omega
          have hs2 : 64 * (m : Int) ≤ (S.size : Int) := by omega
          have hs3 : (64 * (m : Int)).toNat = 64 * m := by omega
          have e1 : IntKind.i64.wrap ((i : Int) + 1) = (i : Int) + 1 := IntWalk.i64_in _ (by omega)
          have e2 : IntKind.i64.wrap (64 * (m : Int)) = 64 * (m : Int) := IntWalk.i64_in _ (by omega)
          rcases HR.out.2.1.2 with ⟨h0, h1⟩ | ⟨gb, cap', cur, h0, _, _, hgc, hgm, _⟩
          · omega
          injection h0 with e3 e4 e5
          subst e3 e5
          have hlt2 := (HR.out.2.1.lt gb rfl).2
          have gcell : ∀ j u, (rval r)[j]? = some u → WQ.cell? ⟨gb, i * 3 + j, none⟩ = some u := fun j u hu => by
            have hj : j < 3 := by
              rcases Nat.lt_or_ge j 3 with h | h
              · exact h
              · rw [List.getElem?_eq_none (by show 3 ≤ j; exact h)] at hu; cases hu
            have := HR.out.2.1.cells (g := gb) rfl (i * 3 + j) u (by rw [flat_re G i r hr j hj]; exact hu)
            rw [Go.WideShapes.add_plain] at this
            simpa using this
          have g0 := gcell 0 _ rfl
          have g1 := gcell 1 _ rfl
          have g2 := gcell 2 _ rfl
          rw [hn] at g2
          rw [Nat.add_zero] at g0
          have HRO := Lib.hid hro
          have HS2 := Lib.hid hS2
          have HLT2 := Lib.hid hlt2
          have HG0 := Lib.hid g0
          have HG1 := Lib.hid g1
          have HG2 := Lib.hid g2
          have hgc2 : (i : Int) < (c : Int) := by omega
          clear hr hrm hrs hf hnx hn1 hn2 hps hcs hil hdr hcat hm hS2 hS gcell g0 g1 g2 hro hlt2 hS2s hgm hgc
          go_upto_region 18 with (go_at_call 10; refine (kg _).mono ?_; rintro x w3 ⟨A3, c3, rfl, hI3, hb3⟩; have HI3 := Lib.hid hI3; have HB3 := Lib.hid (HB.out.trans (hb3.mono HB.out.size)); clear hb3 hI3)
          have hx3 := Blk.new w3 25 #[.int .u64 r.e, .int .u64 r.l, .slice A3 n c3]
          have hI4 := HI3.out.old (belowNew (belowSame w3) (.cells #[.int .u64 r.e, .int .u64 r.l, .slice A3 n c3] 25))
          have hb4 := HB3.out.alloc HB3.out.size (.cells #[.int .u64 r.e, .int .u64 r.l, .slice A3 n c3] 25)
          obtain ⟨W4, hW4⟩ : ∃ W, w3.alloc (.cells #[.int .u64 r.e, .int .u64 r.l, .slice A3 n c3] 25) = W := ⟨_, rfl⟩
          rw [hW4] at hx3 hI4 hb4 ⊢
          obtain ⟨y, hy⟩ : ∃ y, w3.heap.size = y := ⟨_, rfl⟩
          rw [hy] at hx3 ⊢
          have Y0 : Hid (W4.cell? ⟨y, 0, none⟩ = some (.int .u64 r.e)) := Lib.hid (hx3.cell 0)
          have Y1 : Hid (W4.cell? ⟨y, 1, none⟩ = some (.int .u64 r.l)) := Lib.hid (hx3.cell 1)
          have Y2 : Hid (W4.cell? ⟨y, 2, none⟩ = some (.slice A3 n c3)) := Lib.hid (hx3.cell 2)
          have HYL : Hid (y < W4.heap.size) := Lib.hid hx3.lt
          have G0 : Hid (W4.cell? ⟨gb, i * 3, none⟩ = some (.int .u64 r.e)) := Lib.hid ((hb4.cell (p := ⟨gb, i * 3, none⟩) HLT2.out).trans HG0.out)
          have G1 : Hid (W4.cell? ⟨gb, i * 3 + 1, none⟩ = some (.int .u64 r.l)) := Lib.hid ((hb4.cell (p := ⟨gb, i * 3 + 1, none⟩) HLT2.out).trans HG1.out)
          have G2 : Hid (W4.cell? ⟨gb, i * 3 + 2, none⟩ = some (.slice r.A n r.c)) := Lib.hid ((hb4.cell (p := ⟨gb, i * 3 + 2, none⟩) HLT2.out).trans HG2.out)
          have HGL : Hid (gb < W4.heap.size) := Lib.hid (Nat.lt_of_lt_of_le HLT2.out hb4.size)
          have HB4 := Lib.hid hb4
          have KS := Lib.hid (fun (W : World) (hb : Below W4.heap.size W4 W) => same_images W A3 r.A n c3 r.c r.xs (hI4.old hb) ((HRO.out.ims.old (belowThen HR.out.2.2 hb4)).old hb))
          have ee : (r.e == r.e) = true := by simp
          have el : (r.l == r.l) = true := by simp
          clear hx3 hI4 hb4 hW4 hy kg HI3 HB3 HG0 HG1 HG2
          refine wp_region_inv (fun i' v' w' => ([(fun v' _ => v' = (.int .i64 0)), (fun v' _ => v' = (.bool false)), (fun v' _ => v' = (.bool false)), (fun v' _ => v' = (.pointer (some ⟨y, 0, none⟩))), (fun v' _ => v' = (.int .u64 r.e)), (fun v' _ => v' = (.slice (some ⟨gb, 0, none⟩) g c)), (fun v' _ => v' = (.int .i64 (i : Int))), (fun v' _ => v' = (.pointer (some ⟨gb, i * 3, none⟩))), (fun v' _ => v' = (.pointer (some ⟨gb, i * 3, none⟩))), (fun v' _ => v' = (.int .u64 r.e)), (fun v' _ => v' = (.bool false)), (fun v' _ => v' = (.bool false)), (fun v' _ => v' = (.bool false)), (fun v' _ => v' = (.pointer (some ⟨y, 1, none⟩))), (fun v' _ => v' = (.int .u64 r.l)), (fun v' _ => v' = (.slice (some ⟨gb, 0, none⟩) g c)), (fun v' _ => v' = (.int .i64 (i : Int))), (fun v' _ => v' = (.pointer (some ⟨gb, i * 3, none⟩))), (fun v' _ => v' = (.pointer (some ⟨gb, i * 3 + 1, none⟩))), (fun v' _ => v' = (.int .u64 r.l)), (fun v' _ => v' = (.bool false)), (fun v' _ => v' = (.bool false)), (fun v' _ => v' = (.bool false)), (fun v' _ => v' = (.pointer (some ⟨y, 2, none⟩))), (fun v' _ => v' = (.slice A3 n c3)), (fun v' _ => v' = (.slice (some ⟨gb, 0, none⟩) g c)), (fun v' _ => v' = (.int .i64 (i : Int))), (fun v' _ => v' = (.pointer (some ⟨gb, i * 3, none⟩))), (fun v' _ => v' = (.pointer (some ⟨gb, i * 3 + 2, none⟩))), (fun v' _ => v' = (.slice r.A n r.c)), (fun v' _ => v' = (.bool true)), (fun v' _ => v' = (.bool false)), (fun v' _ => v' = (.bool false)), (fun v' _ => v' = (.bool false)), (fun v' _ => v' = (.int .i64 (m : Int))), (fun v' _ => v' = (.int .i64 (64 * (m : Int)))), (fun v' _ => v' = (.string S)), (fun v' _ => v' = (.int .i64 (S.size : Int))), (fun v' _ => v' = (.bool false)), (fun v' _ => v' = (.bool false))] : List (Value → World → Prop)).getD i' (fun _ _ => True) v' w') (by kernel_rfl) (by kernel_rfl) (stab_list (by
              repeat (first | exact allStab_nil | refine allStab_cons (stab_eq _) ?_ | refine allStab_cons (stab_slice _ _) ?_))) ?_ ?_
          · refine steps_cons rfl ?_ ?_
            · intro a w hR K hK
              have e11 : a.tmps.getD 11 undef = (.int .i64 0) := hR.old 11 (by kernel_rfl) rfl
              rw [if_pos (wanted_none rfl)]
              have hB := hR.bel
              clear hR
              go_simp
              exact hK _ _ (belowSame _) rfl
            refine steps_cons rfl ?_ ?_
            · intro a w hR K hK
              obtain ⟨v62, e62, _, q62⟩ := hR.val 0 62 (by kernel_rfl) (by kernel_rfl)
              obtain rfl : v62 = (.int .i64 0) := q62
              rw [if_pos (wanted_none rfl)]
              have hB := hR.bel
              clear hR
              go_simp
              exact hK _ _ (belowSame _) rfl
            refine steps_cons rfl ?_ ?_
            · intro a w hR K hK
              obtain ⟨v63, e63, _, q63⟩ := hR.val 1 63 (by kernel_rfl) (by kernel_rfl)
              obtain rfl : v63 = (.bool false) := q63
              rw [if_pos (wanted_none rfl)]
              have hB := hR.bel
              clear hR
              go_simp
              exact hK _ _ (belowSame _) rfl
            refine steps_cons rfl ?_ ?_
            · intro a w hR K hK
              have e9 : a.tmps.getD 9 undef = (.pointer (some ⟨y, 0, none⟩)) := hR.old 9 (by kernel_rfl) rfl
              rw [if_pos (hR.wants (o := _) rfl (by kernel_rfl : depB _ 2 = true) (by kernel_rfl : dstAt _ 2 = some 64) (fun _ h => h))]
              have hB := hR.bel
              clear hR
              go_simp
              exact hK _ _ (belowSame _) rfl
            refine steps_cons rfl ?_ ?_
            · intro a w hR K hK
              obtain ⟨v65, e65, _, q65⟩ := hR.val 3 65 (by kernel_rfl) (by kernel_rfl)
              obtain rfl : v65 = (.pointer (some ⟨y, 0, none⟩)) := q65
              rw [if_pos (hR.wants (o := _) rfl (by kernel_rfl : depB _ 2 = true) (by kernel_rfl : dstAt _ 2 = some 64) (fun _ h => h))]
              have hc := (hR.bel.cell (p := ⟨y, 0, none⟩) HYL.out).trans Y0.out
              clear hR
              go_simp
              exact hK _ _ (belowSame _) rfl
            refine steps_cons rfl ?_ ?_
            · intro a w hR K hK
              have e4 : a.tmps.getD 4 undef = (.slice (some ⟨gb, 0, none⟩) g c) := hR.old 4 (by kernel_rfl) rfl
              rw [if_pos (hR.wants (o := _) rfl (by kernel_rfl : depB _ 2 = true) (by kernel_rfl : dstAt _ 2 = some 64) (fun _ h => h))]
              have hB := hR.bel
              clear hR
              go_simp
              exact hK _ _ (belowSame _) rfl
            refine steps_cons rfl ?_ ?_
            · intro a w hR K hK
              have e8 : a.tmps.getD 8 undef = (.int .i64 (i : Int)) := hR.old 8 (by kernel_rfl) rfl
              rw [if_pos (hR.wants (o := _) rfl (by kernel_rfl : depB _ 2 = true) (by kernel_rfl : dstAt _ 2 = some 64) (fun _ h => h))]
              have hB := hR.bel
              clear hR
              go_simp
              exact hK _ _ (belowSame _) rfl
            refine steps_cons rfl ?_ ?_
            · intro a w hR K hK
              obtain ⟨v67, e67, _, q67⟩ := hR.val 5 67 (by kernel_rfl) (by kernel_rfl)
              obtain rfl : v67 = (.slice (some ⟨gb, 0, none⟩) g c) := q67
              obtain ⟨v68, e68, _, q68⟩ := hR.val 6 68 (by kernel_rfl) (by kernel_rfl)
              obtain rfl : v68 = (.int .i64 (i : Int)) := q68
              rw [if_pos (hR.wants (o := _) rfl (by kernel_rfl : depB _ 2 = true) (by kernel_rfl : dstAt _ 2 = some 64) (fun _ h => h))]
              have hB := hR.bel
              clear hR
              go_simp
              exact hK _ _ (belowSame _) rfl
            refine steps_cons rfl ?_ ?_
            · intro a w hR K hK
              obtain ⟨v69, e69, _, q69⟩ := hR.val 7 69 (by kernel_rfl) (by kernel_rfl)
              obtain rfl : v69 = (.pointer (some ⟨gb, i * 3, none⟩)) := q69
              rw [if_pos (hR.wants (o := _) rfl (by kernel_rfl : depB _ 2 = true) (by kernel_rfl : dstAt _ 2 = some 64) (fun _ h => h))]
              have hB := hR.bel
              clear hR
              go_simp
              exact hK _ _ (belowSame _) rfl
            refine steps_cons rfl ?_ ?_
            · intro a w hR K hK
              obtain ⟨v70, e70, _, q70⟩ := hR.val 8 70 (by kernel_rfl) (by kernel_rfl)
              obtain rfl : v70 = (.pointer (some ⟨gb, i * 3, none⟩)) := q70
              rw [if_pos (hR.wants (o := _) rfl (by kernel_rfl : depB _ 2 = true) (by kernel_rfl : dstAt _ 2 = some 64) (fun _ h => h))]
              have hc := (hR.bel.cell (p := ⟨gb, i * 3, none⟩) HGL.out).trans G0.out
              clear hR
              go_simp
              exact hK _ _ (belowSame _) rfl
            refine steps_cons rfl ?_ ?_
            · intro a w hR K hK
              obtain ⟨v66, e66, _, q66⟩ := hR.val 4 66 (by kernel_rfl) (by kernel_rfl)
              obtain rfl : v66 = (.int .u64 r.e) := q66
              obtain ⟨v71, e71, _, q71⟩ := hR.val 9 71 (by kernel_rfl) (by kernel_rfl)
              obtain rfl : v71 = (.int .u64 r.e) := q71
              rw [if_pos (hR.wants (o := _) rfl (by kernel_rfl : depB _ 2 = true) (by kernel_rfl : dstAt _ 2 = some 64) (fun _ h => h))]
              have hB := hR.bel
              clear hR
              go_simp
              exact hK _ _ (belowSame _) rfl
            refine steps_cons rfl ?_ ?_
            · intro a w hR K hK
              obtain ⟨v64, e64, _, q64⟩ := hR.val 2 64 (by kernel_rfl) (by kernel_rfl)
              obtain rfl : v64 = (.bool false) := q64
              obtain ⟨v72, e72, _, q72⟩ := hR.val 10 72 (by kernel_rfl) (by kernel_rfl)
              obtain rfl : v72 = (.bool false) := q72
              rw [if_pos (wanted_none rfl)]
              have hB := hR.bel
              clear hR
              go_simp
              exact hK _ _ (belowSame _) rfl
            refine steps_cons rfl ?_ ?_
            · intro a w hR K hK
              obtain ⟨v73, e73, _, q73⟩ := hR.val 11 73 (by kernel_rfl) (by kernel_rfl)
              obtain rfl : v73 = (.bool false) := q73
              rw [if_pos (wanted_none rfl)]
              have hB := hR.bel
              clear hR
              go_simp
              exact hK _ _ (belowSame _) rfl
            refine steps_cons rfl ?_ ?_
            · intro a w hR K hK
              have e9 : a.tmps.getD 9 undef = (.pointer (some ⟨y, 0, none⟩)) := hR.old 9 (by kernel_rfl) rfl
              rw [if_pos (hR.wants (o := _) rfl (by kernel_rfl : depB _ 12 = true) (by kernel_rfl : dstAt _ 12 = some 74) (fun _ h => h))]
              have hB := hR.bel
              clear hR
              go_simp
              exact hK _ _ (belowSame _) rfl
            refine steps_cons rfl ?_ ?_
            · intro a w hR K hK
              obtain ⟨v75, e75, _, q75⟩ := hR.val 13 75 (by kernel_rfl) (by kernel_rfl)
              obtain rfl : v75 = (.pointer (some ⟨y, 1, none⟩)) := q75
              rw [if_pos (hR.wants (o := _) rfl (by kernel_rfl : depB _ 12 = true) (by kernel_rfl : dstAt _ 12 = some 74) (fun _ h => h))]
              have hc := (hR.bel.cell (p := ⟨y, 1, none⟩) HYL.out).trans Y1.out
              clear hR
              go_simp
              exact hK _ _ (belowSame _) rfl
            refine steps_cons rfl ?_ ?_
            · intro a w hR K hK
              have e4 : a.tmps.getD 4 undef = (.slice (some ⟨gb, 0, none⟩) g c) := hR.old 4 (by kernel_rfl) rfl
              rw [if_pos (hR.wants (o := _) rfl (by kernel_rfl : depB _ 12 = true) (by kernel_rfl : dstAt _ 12 = some 74) (fun _ h => h))]
              have hB := hR.bel
              clear hR
              go_simp
              exact hK _ _ (belowSame _) rfl
            refine steps_cons rfl ?_ ?_
            · intro a w hR K hK
              have e8 : a.tmps.getD 8 undef = (.int .i64 (i : Int)) := hR.old 8 (by kernel_rfl) rfl
              rw [if_pos (hR.wants (o := _) rfl (by kernel_rfl : depB _ 12 = true) (by kernel_rfl : dstAt _ 12 = some 74) (fun _ h => h))]
              have hB := hR.bel
              clear hR
              go_simp
              exact hK _ _ (belowSame _) rfl
            refine steps_cons rfl ?_ ?_
            · intro a w hR K hK
              obtain ⟨v77, e77, _, q77⟩ := hR.val 15 77 (by kernel_rfl) (by kernel_rfl)
              obtain rfl : v77 = (.slice (some ⟨gb, 0, none⟩) g c) := q77
              obtain ⟨v78, e78, _, q78⟩ := hR.val 16 78 (by kernel_rfl) (by kernel_rfl)
              obtain rfl : v78 = (.int .i64 (i : Int)) := q78
              rw [if_pos (hR.wants (o := _) rfl (by kernel_rfl : depB _ 12 = true) (by kernel_rfl : dstAt _ 12 = some 74) (fun _ h => h))]
              have hB := hR.bel
              clear hR
              go_simp
              exact hK _ _ (belowSame _) rfl
            refine steps_cons rfl ?_ ?_
            · intro a w hR K hK
              obtain ⟨v79, e79, _, q79⟩ := hR.val 17 79 (by kernel_rfl) (by kernel_rfl)
              obtain rfl : v79 = (.pointer (some ⟨gb, i * 3, none⟩)) := q79
              rw [if_pos (hR.wants (o := _) rfl (by kernel_rfl : depB _ 12 = true) (by kernel_rfl : dstAt _ 12 = some 74) (fun _ h => h))]
              have hB := hR.bel
              clear hR
              go_simp
              exact hK _ _ (belowSame _) rfl
            refine steps_cons rfl ?_ ?_
            · intro a w hR K hK
              obtain ⟨v80, e80, _, q80⟩ := hR.val 18 80 (by kernel_rfl) (by kernel_rfl)
              obtain rfl : v80 = (.pointer (some ⟨gb, i * 3 + 1, none⟩)) := q80
              rw [if_pos (hR.wants (o := _) rfl (by kernel_rfl : depB _ 12 = true) (by kernel_rfl : dstAt _ 12 = some 74) (fun _ h => h))]
              have hc := (hR.bel.cell (p := ⟨gb, i * 3 + 1, none⟩) HGL.out).trans G1.out
              clear hR
              go_simp
              exact hK _ _ (belowSame _) rfl
            refine steps_cons rfl ?_ ?_
            · intro a w hR K hK
              obtain ⟨v76, e76, _, q76⟩ := hR.val 14 76 (by kernel_rfl) (by kernel_rfl)
              obtain rfl : v76 = (.int .u64 r.l) := q76
              obtain ⟨v81, e81, _, q81⟩ := hR.val 19 81 (by kernel_rfl) (by kernel_rfl)
              obtain rfl : v81 = (.int .u64 r.l) := q81
              rw [if_pos (hR.wants (o := _) rfl (by kernel_rfl : depB _ 12 = true) (by kernel_rfl : dstAt _ 12 = some 74) (fun _ h => h))]
              have hB := hR.bel
              clear hR
              go_simp
              exact hK _ _ (belowSame _) rfl
            refine steps_cons rfl ?_ ?_
            · intro a w hR K hK
              obtain ⟨v74, e74, _, q74⟩ := hR.val 12 74 (by kernel_rfl) (by kernel_rfl)
              obtain rfl : v74 = (.bool false) := q74
              obtain ⟨v82, e82, _, q82⟩ := hR.val 20 82 (by kernel_rfl) (by kernel_rfl)
              obtain rfl : v82 = (.bool false) := q82
              rw [if_pos (wanted_none rfl)]
              have hB := hR.bel
              clear hR
              go_simp
              exact hK _ _ (belowSame _) rfl
            refine steps_cons rfl ?_ ?_
            · intro a w hR K hK
              obtain ⟨v83, e83, _, q83⟩ := hR.val 21 83 (by kernel_rfl) (by kernel_rfl)
              obtain rfl : v83 = (.bool false) := q83
              rw [if_pos (wanted_none rfl)]
              have hB := hR.bel
              clear hR
              go_simp
              exact hK _ _ (belowSame _) rfl
            refine steps_cons rfl ?_ ?_
            · intro a w hR K hK
              have e9 : a.tmps.getD 9 undef = (.pointer (some ⟨y, 0, none⟩)) := hR.old 9 (by kernel_rfl) rfl
              rw [if_pos (hR.wants (o := _) rfl (by kernel_rfl : depB _ 22 = true) (by kernel_rfl : dstAt _ 22 = some 84) (fun _ h => h))]
              have hB := hR.bel
              clear hR
              go_simp
              exact hK _ _ (belowSame _) rfl
            refine steps_cons rfl ?_ ?_
            · intro a w hR K hK
              obtain ⟨v85, e85, _, q85⟩ := hR.val 23 85 (by kernel_rfl) (by kernel_rfl)
              obtain rfl : v85 = (.pointer (some ⟨y, 2, none⟩)) := q85
              rw [if_pos (hR.wants (o := _) rfl (by kernel_rfl : depB _ 22 = true) (by kernel_rfl : dstAt _ 22 = some 84) (fun _ h => h))]
              have hc := (hR.bel.cell (p := ⟨y, 2, none⟩) HYL.out).trans Y2.out
              clear hR
              go_simp
              exact hK _ _ (belowSame _) rfl
            refine steps_cons rfl ?_ ?_
            · intro a w hR K hK
              have e4 : a.tmps.getD 4 undef = (.slice (some ⟨gb, 0, none⟩) g c) := hR.old 4 (by kernel_rfl) rfl
              rw [if_pos (hR.wants (o := _) rfl (by kernel_rfl : depB _ 22 = true) (by kernel_rfl : dstAt _ 22 = some 84) (fun _ h => h))]
              have hB := hR.bel
              clear hR
              go_simp
              exact hK _ _ (belowSame _) rfl
            refine steps_cons rfl ?_ ?_
            · intro a w hR K hK
              have e8 : a.tmps.getD 8 undef = (.int .i64 (i : Int)) := hR.old 8 (by kernel_rfl) rfl
              rw [if_pos (hR.wants (o := _) rfl (by kernel_rfl : depB _ 22 = true) (by kernel_rfl : dstAt _ 22 = some 84) (fun _ h => h))]
              have hB := hR.bel
              clear hR
              go_simp
              exact hK _ _ (belowSame _) rfl
            refine steps_cons rfl ?_ ?_
            · intro a w hR K hK
              obtain ⟨v87, e87, _, q87⟩ := hR.val 25 87 (by kernel_rfl) (by kernel_rfl)
              obtain rfl : v87 = (.slice (some ⟨gb, 0, none⟩) g c) := q87
              obtain ⟨v88, e88, _, q88⟩ := hR.val 26 88 (by kernel_rfl) (by kernel_rfl)
              obtain rfl : v88 = (.int .i64 (i : Int)) := q88
              rw [if_pos (hR.wants (o := _) rfl (by kernel_rfl : depB _ 22 = true) (by kernel_rfl : dstAt _ 22 = some 84) (fun _ h => h))]
              have hB := hR.bel
              clear hR
              go_simp
              exact hK _ _ (belowSame _) rfl
            refine steps_cons rfl ?_ ?_
            · intro a w hR K hK
              obtain ⟨v89, e89, _, q89⟩ := hR.val 27 89 (by kernel_rfl) (by kernel_rfl)
              obtain rfl : v89 = (.pointer (some ⟨gb, i * 3, none⟩)) := q89
              rw [if_pos (hR.wants (o := _) rfl (by kernel_rfl : depB _ 22 = true) (by kernel_rfl : dstAt _ 22 = some 84) (fun _ h => h))]
              have hB := hR.bel
              clear hR
              go_simp
              exact hK _ _ (belowSame _) rfl
            refine steps_cons rfl ?_ ?_
            · intro a w hR K hK
              obtain ⟨v90, e90, _, q90⟩ := hR.val 28 90 (by kernel_rfl) (by kernel_rfl)
              obtain rfl : v90 = (.pointer (some ⟨gb, i * 3 + 2, none⟩)) := q90
              rw [if_pos (hR.wants (o := _) rfl (by kernel_rfl : depB _ 22 = true) (by kernel_rfl : dstAt _ 22 = some 84) (fun _ h => h))]
              have hc := (hR.bel.cell (p := ⟨gb, i * 3 + 2, none⟩) HGL.out).trans G2.out
              clear hR
              go_simp
              exact hK _ _ (belowSame _) rfl
            refine steps_cons rfl ?_ ?_
            · intro a w hR K hK
              obtain ⟨v86, e86, _, q86⟩ := hR.val 24 86 (by kernel_rfl) (by kernel_rfl)
              obtain rfl : v86 = (.slice A3 n c3) := q86
              obtain ⟨v91, e91, _, q91⟩ := hR.val 29 91 (by kernel_rfl) (by kernel_rfl)
              obtain rfl : v91 = (.slice r.A n r.c) := q91
              rw [if_pos (hR.wants (o := _) rfl (by kernel_rfl : depB _ 22 = true) (by kernel_rfl : dstAt _ 22 = some 84) (fun _ h => h))]
              have hbw := belowUndrew hR.bel
              clear hR
              go_simp
              refine (KS.out _ hbw).mono ?_
              rintro e w' ⟨rfl, hw⟩
              exact hK _ _ hw rfl
            refine steps_cons rfl ?_ ?_
            · intro a w hR K hK
              obtain ⟨v92, e92, _, q92⟩ := hR.val 30 92 (by kernel_rfl) (by kernel_rfl)
              obtain rfl : v92 = (.bool true) := q92
              rw [if_pos (hR.wants (o := _) rfl (by kernel_rfl : depB _ 22 = true) (by kernel_rfl : dstAt _ 22 = some 84) (fun _ h => h))]
              have hB := hR.bel
              clear hR
              go_simp
              exact hK _ _ (belowSame _) rfl
            refine steps_cons rfl ?_ ?_
            · intro a w hR K hK
              obtain ⟨v84, e84, _, q84⟩ := hR.val 22 84 (by kernel_rfl) (by kernel_rfl)
              obtain rfl : v84 = (.bool false) := q84
              obtain ⟨v93, e93, _, q93⟩ := hR.val 31 93 (by kernel_rfl) (by kernel_rfl)
              obtain rfl : v93 = (.bool false) := q93
              rw [if_pos (wanted_none rfl)]
              have hB := hR.bel
              clear hR
              go_simp
              exact hK _ _ (belowSame _) rfl
            refine steps_cons rfl ?_ ?_
            · intro a w hR K hK
              obtain ⟨v94, e94, _, q94⟩ := hR.val 32 94 (by kernel_rfl) (by kernel_rfl)
              obtain rfl : v94 = (.bool false) := q94
              rw [if_pos (wanted_none rfl)]
              have hB := hR.bel
              clear hR
              go_simp
              exact hK _ _ (belowSame _) rfl
            refine steps_cons rfl ?_ ?_
            · intro a w hR K hK
              have e10 : a.tmps.getD 10 undef = (.int .i64 (m : Int)) := hR.old 10 (by kernel_rfl) rfl
              rw [if_pos (hR.wants (o := _) rfl (by kernel_rfl : depB _ 33 = true) (by kernel_rfl : dstAt _ 33 = some 95) (fun _ h => h))]
              have hB := hR.bel
              clear hR
              go_simp
              exact hK _ _ (belowSame _) rfl
            refine steps_cons rfl ?_ ?_
            · intro a w hR K hK
              obtain ⟨v96, e96, _, q96⟩ := hR.val 34 96 (by kernel_rfl) (by kernel_rfl)
              obtain rfl : v96 = (.int .i64 (m : Int)) := q96
              rw [if_pos (hR.wants (o := _) rfl (by kernel_rfl : depB _ 33 = true) (by kernel_rfl : dstAt _ 33 = some 95) (fun _ h => h))]
              have hB := hR.bel
              clear hR
              go_simp
              exact hK _ _ (belowSame _) rfl
            refine steps_cons rfl ?_ ?_
            · intro a w hR K hK
              have e3 : a.tmps.getD 3 undef = (.string S) := hR.old 3 (by kernel_rfl) rfl
              rw [if_pos (hR.wants (o := _) rfl (by kernel_rfl : depB _ 33 = true) (by kernel_rfl : dstAt _ 33 = some 95) (fun _ h => h))]
              have hB := hR.bel
              clear hR
              go_simp
              exact hK _ _ (belowSame _) rfl
            refine steps_cons rfl ?_ ?_
            · intro a w hR K hK
              obtain ⟨v98, e98, _, q98⟩ := hR.val 36 98 (by kernel_rfl) (by kernel_rfl)
              obtain rfl : v98 = (.string S) := q98
              rw [if_pos (hR.wants (o := _) rfl (by kernel_rfl : depB _ 33 = true) (by kernel_rfl : dstAt _ 33 = some 95) (fun _ h => h))]
              have hB := hR.bel
              clear hR
              go_simp
              exact hK _ _ (belowSame _) rfl
            refine steps_cons rfl ?_ ?_
            · intro a w hR K hK
              obtain ⟨v97, e97, _, q97⟩ := hR.val 35 97 (by kernel_rfl) (by kernel_rfl)
              obtain rfl : v97 = (.int .i64 (64 * (m : Int))) := q97
              obtain ⟨v99, e99, _, q99⟩ := hR.val 37 99 (by kernel_rfl) (by kernel_rfl)
              obtain rfl : v99 = (.int .i64 (S.size : Int)) := q99
              rw [if_pos (hR.wants (o := _) rfl (by kernel_rfl : depB _ 33 = true) (by kernel_rfl : dstAt _ 33 = some 95) (fun _ h => h))]
              have hB := hR.bel
              clear hR
              go_simp
              exact hK _ _ (belowSame _) rfl
            refine steps_cons rfl ?_ ?_
            · intro a w hR K hK
              obtain ⟨v95, e95, _, q95⟩ := hR.val 33 95 (by kernel_rfl) (by kernel_rfl)
              obtain rfl : v95 = (.bool false) := q95
              obtain ⟨v100, e100, _, q100⟩ := hR.val 38 100 (by kernel_rfl) (by kernel_rfl)
              obtain rfl : v100 = (.bool false) := q100
              rw [if_pos (wanted_none rfl)]
              have hB := hR.bel
              clear hR
              go_simp
              exact hK _ _ (belowSame _) rfl
            exact steps_nil
          · intro a' w' hF
            obtain ⟨v101, e101, _, q101⟩ := hF.val 39 101 (by decide) (by kernel_rfl)
            obtain rfl : v101 = (.bool false) := q101
            have hB := belowUndrew hF.bel
            have hf := hF.frame
            rw [show dsts _ = [62, 63, 64, 65, 66, 67, 68, 69, 70, 71, 72, 73, 74, 75, 76, 77, 78, 79, 80, 81, 82, 83, 84, 85, 86, 87, 88, 89, 90, 91, 92, 93, 94, 95, 96, 97, 98, 99, 100, 101] from by kernel_rfl] at hf
            obtain ⟨z62, h62⟩ : ∃ z, a'.tmps.getD 62 undef = z := ⟨_, rfl⟩
            obtain ⟨z63, h63⟩ : ∃ z, a'.tmps.getD 63 undef = z := ⟨_, rfl⟩
            obtain ⟨z64, h64⟩ : ∃ z, a'.tmps.getD 64 undef = z := ⟨_, rfl⟩
            obtain ⟨z65, h65⟩ : ∃ z, a'.tmps.getD 65 undef = z := ⟨_, rfl⟩
            obtain ⟨z66, h66⟩ : ∃ z, a'.tmps.getD 66 undef = z := ⟨_, rfl⟩
            obtain ⟨z67, h67⟩ : ∃ z, a'.tmps.getD 67 undef = z := ⟨_, rfl⟩
            obtain ⟨z68, h68⟩ : ∃ z, a'.tmps.getD 68 undef = z := ⟨_, rfl⟩
            obtain ⟨z69, h69⟩ : ∃ z, a'.tmps.getD 69 undef = z := ⟨_, rfl⟩
            obtain ⟨z70, h70⟩ : ∃ z, a'.tmps.getD 70 undef = z := ⟨_, rfl⟩
            obtain ⟨z71, h71⟩ : ∃ z, a'.tmps.getD 71 undef = z := ⟨_, rfl⟩
            obtain ⟨z72, h72⟩ : ∃ z, a'.tmps.getD 72 undef = z := ⟨_, rfl⟩
            obtain ⟨z73, h73⟩ : ∃ z, a'.tmps.getD 73 undef = z := ⟨_, rfl⟩
            obtain ⟨z74, h74⟩ : ∃ z, a'.tmps.getD 74 undef = z := ⟨_, rfl⟩
            obtain ⟨z75, h75⟩ : ∃ z, a'.tmps.getD 75 undef = z := ⟨_, rfl⟩
            obtain ⟨z76, h76⟩ : ∃ z, a'.tmps.getD 76 undef = z := ⟨_, rfl⟩
            obtain ⟨z77, h77⟩ : ∃ z, a'.tmps.getD 77 undef = z := ⟨_, rfl⟩
            obtain ⟨z78, h78⟩ : ∃ z, a'.tmps.getD 78 undef = z := ⟨_, rfl⟩
            obtain ⟨z79, h79⟩ : ∃ z, a'.tmps.getD 79 undef = z := ⟨_, rfl⟩
            obtain ⟨z80, h80⟩ : ∃ z, a'.tmps.getD 80 undef = z := ⟨_, rfl⟩
            obtain ⟨z81, h81⟩ : ∃ z, a'.tmps.getD 81 undef = z := ⟨_, rfl⟩
            obtain ⟨z82, h82⟩ : ∃ z, a'.tmps.getD 82 undef = z := ⟨_, rfl⟩
            obtain ⟨z83, h83⟩ : ∃ z, a'.tmps.getD 83 undef = z := ⟨_, rfl⟩
            obtain ⟨z84, h84⟩ : ∃ z, a'.tmps.getD 84 undef = z := ⟨_, rfl⟩
            obtain ⟨z85, h85⟩ : ∃ z, a'.tmps.getD 85 undef = z := ⟨_, rfl⟩
            obtain ⟨z86, h86⟩ : ∃ z, a'.tmps.getD 86 undef = z := ⟨_, rfl⟩
            obtain ⟨z87, h87⟩ : ∃ z, a'.tmps.getD 87 undef = z := ⟨_, rfl⟩
            obtain ⟨z88, h88⟩ : ∃ z, a'.tmps.getD 88 undef = z := ⟨_, rfl⟩
            obtain ⟨z89, h89⟩ : ∃ z, a'.tmps.getD 89 undef = z := ⟨_, rfl⟩
            obtain ⟨z90, h90⟩ : ∃ z, a'.tmps.getD 90 undef = z := ⟨_, rfl⟩
            obtain ⟨z91, h91⟩ : ∃ z, a'.tmps.getD 91 undef = z := ⟨_, rfl⟩
            obtain ⟨z92, h92⟩ : ∃ z, a'.tmps.getD 92 undef = z := ⟨_, rfl⟩
            obtain ⟨z93, h93⟩ : ∃ z, a'.tmps.getD 93 undef = z := ⟨_, rfl⟩
            obtain ⟨z94, h94⟩ : ∃ z, a'.tmps.getD 94 undef = z := ⟨_, rfl⟩
            obtain ⟨z95, h95⟩ : ∃ z, a'.tmps.getD 95 undef = z := ⟨_, rfl⟩
            obtain ⟨z96, h96⟩ : ∃ z, a'.tmps.getD 96 undef = z := ⟨_, rfl⟩
            obtain ⟨z97, h97⟩ : ∃ z, a'.tmps.getD 97 undef = z := ⟨_, rfl⟩
            obtain ⟨z98, h98⟩ : ∃ z, a'.tmps.getD 98 undef = z := ⟨_, rfl⟩
            obtain ⟨z99, h99⟩ : ∃ z, a'.tmps.getD 99 undef = z := ⟨_, rfl⟩
            obtain ⟨z100, h100⟩ : ∃ z, a'.tmps.getD 100 undef = z := ⟨_, rfl⟩
            simp only [List.foldl_cons, List.foldl_nil, h62, h63, h64, h65, h66, h67, h68, h69, h70, h71, h72, h73, h74, h75, h76, h77, h78, h79, h80, h81, h82, h83, h84, h85, h86, h87, h88, h89, h90, h91, h92, h93, h94, h95, h96, h97, h98, h99, h100, e101] at hf
            simp only [List.setIfInBounds_toArray, List.set_cons_zero, List.set_cons_succ] at hf
            clear hF e101 h62 h63 h64 h65 h66 h67 h68 h69 h70 h71 h72 h73 h74 h75 h76 h77 h78 h79 h80 h81 h82 h83 h84 h85 h86 h87 h88 h89 h90 h91 h92 h93 h94 h95 h96 h97 h98 h99 h100
            subst hf
            go_wp2_with fail
            go_roundw
            case rel => exact ⟨i + 1, by omega, by go_num, by rw [HS2.out], Lib.hid (HB4.out.trans (hB.mono HB4.out.size))⟩
            case measure => simp [intOf]; omega
        · obtain rfl : i = g := by omega
          have hnil : catR (G.drop i) = ⟨#[]⟩ := by rw [List.drop_eq_nil_of_le (by have := HGK.out; omega)]; rfl
          rw [hnil]
          have n4 : ((⟨#[]⟩ : ByteArray).toList == (⟨#[]⟩ : ByteArray).toList) = true := by simp
          clear hnil
          go_wp2_with (go_at_call 8; refine (ka _).mono ?_; rintro x w9 ⟨rfl, hb9⟩; have HB9 := Lib.hid (belowThen (belowThen HR.out.2.2 HB.out) hb9); clear hb9)
          exact end_ret (t := 2) (v := .bool true) (by kernel_rfl) rfl rfl ⟨rfl, HB9.out⟩
end Go.Proofs.Ytmfbggdoejcpiaa.recRow
