/- The net: Send. No condition. -/
import Derived.Test.YtanhdcffbdhkcaaNet4
import Derived.Test.YtanhdcffbdhkcaaShelf
namespace Go.Proofs.Ytanhdcffbdhkcaa.NT
set_option maxRecDepth 100000
open Go.RowKit Go.Proofs.Ytanhdcffbdhkcaa.RP Go.Proofs.Ytanhdcffbdhkcaa.CM
set_option linter.unusedVariables false

theorem clone_any (s : ByteArray) (hs : s.size ≤ 1000000) (w : World) : Calls Try.prog 31 #[.string s] w fun e w' => e = .returned (.string s) ∧ Below w.heap.size w w' := by
  go_enter Try.func31, Try.ntmps31
  go_wp2_with (go_at_call 42; refine (Try.stringslite_Clone s _ (by omega)).mono ?_; rintro e w1 ⟨rfl, hb⟩)
  go_ret
  exact ⟨rfl, hb⟩
theorem ret_len {a b : Int} (h : a = b) : Value.int .i64 a = .int .i64 b := by rw [h]
def sendOne (C : Int → Int → Bool) (xs : List Pk) (p : Pk) : List Pk := if C (min p.f p.t) (max p.f p.t) = true then xs else if xs.length < 900 then xs ++ [p] else xs
def sendB (C : Int → Int → Bool) (xs : List Pk) (ps : List Pk) : List Pk := ps.foldl (sendOne C) xs
theorem sendB_snoc (C : Int → Int → Bool) (xs ps : List Pk) (k : Nat) (p : Pk) (h : ps[k]? = some p) : sendB C xs (ps.take (k + 1)) = sendOne C (sendB C xs (ps.take k)) p := by
  unfold sendB
  rw [List.take_add_one, h]
  simp
section
variable {w w' : World} {B g N : Nat} {lp mp : Option Nat} {a : Option Addr} {c : Nat} {xs : List Pk} {C : Int → Int → Bool}
/-- A call of the ring, told of the net: the ring stands where it stood. -/
theorem NetAt.stepR {r : Nat} {ys : List Pk} (h : NetAt w B g (some r) a c mp N xs C) (ho : RingOutN val 3 TR TP w B r 900 a ys w') :
    ∃ a' c', NetAt w' B g (some r) a' c' mp N ys C ∧ Keeps (netF g (some r) a mp) w w' ∧ Grows w (netF g (some r) a mp) (netF g (some r) a' mp) := by
  have hr := ring_of h
  obtain ⟨a', c', e1, e2, e3⟩ := ho
  obtain ⟨lp2, a2, c2, mp2, f1, f2, f3⟩ := h.ringOut ⟨a', c', e1, e2, e3⟩
  have hgr : g ≠ r := h.blk.ne_ hr.blk (by decide)
  have hga : (Value.slice a 0 0).ownBlock ≠ some g := by have := own_ne hr.own h.blk (show TP ≠ TN by decide); rwa [own_blk] at this
  have hnot : ¬ ringF r a g := by rintro (h | h); exact hgr h; exact hga h
  have hb := h.blk.keeps e2 hnot
  have f0 : lp2 = some r ∧ mp2 = mp := by
    have hbl := f1.blk
    unfold Blk at hbl hb
    rw [hb] at hbl
    injection hbl with hbl
    injection hbl with hbl
    simp [lptr] at hbl
    obtain ⟨h1, h2⟩ := hbl
    refine ⟨?_, h2.symm⟩
    cases lp2 with
    | none => simp at h1
    | some x => simp at h1; rw [h1]
  obtain ⟨rfl, rfl⟩ := f0
  exact ⟨a2, c2, f1, f2, f3⟩
theorem wp_lookup_cut {o : Oper} {ac : Act} {K : Act → World → Prop} {Q : Exit → Act → World → Prop} (m x : Operand) {p q : Int} (hop : o.op = Op.lookup 45 m x true)
    (hm : ac.eval m = .map mp) (hx : ac.eval x = pairV p q) (wp : Wf p) (wq : Wf q) (h : CutPart w B mp N C) (hK : K (ac.put o.dst (.tuple #[.agg #[], .bool (C p q)])) w) : o.wp Try.prog ac w K Q := by
  rcases h with ⟨rfl, rfl⟩ | ⟨b, n, rfl, _, _, D, hown, hv⟩
  · have hrun := Maps.look_nil (w := w) (P := Try.prog) true law Try.underlying45 (zeroU w) (pair_key wp wq)
    unfold Oper.wp
    simp [execOp, hop, hm, hx, hrun, Result.andThen]
    exact hK
  · obtain ⟨v, ps, hrun, hvv⟩ := hown.look_ok law Try.underlying45 (zeroU w) unitElem_mk (pair_key wp wq)
    obtain ⟨rfl, _⟩ := unitElem_inv hvv
    unfold Oper.wp
    simp [execOp, hop, hm, hx, hrun, Result.andThen]
    rw [hv p q wp wq]
    exact hK
def UnitAt (v : Value) (w : World) : Prop := ∃ g, v = .pointer (some ⟨g, 0, none⟩) ∧ Blk w g 61 #[]
theorem stab_true : Stab (fun _ _ => True) := fun _ _ _ _ _ => trivial
theorem stab_unit : Stab (fun v w => UnitAt v w) := fun v w w' hb ⟨g, e, hk⟩ => ⟨g, e, hk.below hb hk.lt⟩

theorem lies3 {b off n k : Nat} {ps : List Pk} {p : Pk} (h : Lies w 3 (some ⟨b, off, none⟩) n (ps.flatMap val)) (hk : k < n) (hp : ps[k]? = some p) : w.cell? ⟨b, off + k * 3, none⟩ = some (.int .i64 p.f) ∧ w.cell? ⟨b, off + k * 3 + 1, none⟩ = some (.int .i64 p.t) ∧ w.cell? ⟨b, off + k * 3 + 2, none⟩ = some (.string p.d) := by
  obtain ⟨ad, e, hc⟩ := h.2 (by omega)
  injection e with e
  subst e
  obtain ⟨hlt, hpp⟩ := List.getElem?_eq_some_iff.1 hp
  have get : ∀ j u, (val p)[j]? = some u → w.cell? ⟨b, off + (k * 3 + j), none⟩ = some u := fun j u hu => by
    have hj : j < 3 := by
      rcases Nat.lt_or_ge j 3 with h | h
      · exact h
      · rw [List.getElem?_eq_none (by rw [val_len]; exact h)] at hu; cases hu
    have := hc (k * 3 + j) u (by rw [flat_at val_len ps k j hlt hj, hpp]; exact hu)
    rwa [addr_add] at this
  exact ⟨get 0 _ rfl, get 1 _ rfl, get 2 _ rfl⟩
set_option maxHeartbeats 1000000 in
theorem send_net (h : NetAt w B g lp a c mp N xs C) (A : Option Addr) (n cp : Nat) (ps : List Pk) (hl : Lies w 3 A n (ps.flatMap val)) (hlen : ps.length = n) (hn : n ≤ 100000) (hcp : n ≤ cp) (hap : ∀ ad, A = some ad → ¬ netF g lp a mp ad.block) (hA : 0 < n → ∃ b off, A = some ⟨b, off, none⟩)
    (hwf : ∀ p ∈ ps, Wf p.f ∧ Wf p.t ∧ p.d.size ≤ 1000000) :
    Calls Try.prog 9 #[.pointer (some ⟨g, 0, none⟩), .slice A n cp] w fun e w' => e = .returned (.int .i64 (((sendB C xs ps).length : Int) - (xs.length : Int))) ∧ RingedOut w B g lp a mp N (sendB C xs ps) C w' := by
  have hli := list_any h
  have HL := Lib.hid hl
  have HAP := Lib.hid hap
  have HWF := Lib.hid hwf
  have HLN := Lib.hid hlen
  have H0 := Lib.hid h
  clear h hl hap hwf hlen
  go_enter Try.func9, Try.ntmps9
  go_wp2_with (go_at_call 29; refine hli.mono ?_; rintro e w1 ⟨r, a1, c1, rfl, h1, k1, g1⟩)
  have H1 := Lib.hid (And.intro h1 (And.intro k1 g1))
  clear h1 k1 g1 hli
  go_loopw [6, 17] (fun s i wr => ∃ (k : Nat) (ys : List Pk) (a' : Option Addr) (c' : Nat), k ≤ n ∧ i = .int .i64 (k : Int) ∧ s = .int .i64 ((ys.length : Int) - (xs.length : Int)) ∧ Hid (ys = sendB C xs (ps.take k)) ∧ xs.length ≤ ys.length ∧
      Hid (NetAt wr B g (some r) a' c' mp N ys C ∧ Keeps (netF g lp a mp) w wr ∧ Grows w (netF g lp a mp) (netF g (some r) a' mp))) (fun _ i _ => n - (intOf i).toNat)
  case atStart => exact ⟨0, xs, a1, c1, by omega, rfl, by simp, rfl, by omega, H1.out⟩
  case round =>
    clear H1
    obtain ⟨k, ys, aL, cL, hk, rfl, rfl, HY, hxy, HA⟩ := hrel
    by_cases hlt : k < n
    · obtain ⟨b, off, rfl⟩ := hA (by omega)
      obtain ⟨p, hp⟩ : ∃ p, ps[k]? = some p := ⟨_, List.getElem?_eq_getElem (by rw [HLN.out]; exact hlt)⟩
      obtain ⟨x0, x1, x2⟩ := lies3 (HL.out.keeps (by omega) HA.out.2.1 HAP.out) hlt hp
      have HP := Lib.hid hp
      clear hp
      go_upto_region 8 with fail
      clear x0 x1 x2
      have hwp := HWF.out p (List.mem_of_getElem? HP.out)
      have HWP := Lib.hid hwp
      have WX := Lib.hid (wf_min hwp.1 hwp.2.1)
      obtain ⟨q, hq⟩ : ∃ q, C (min p.f p.t) (max p.f p.t) = q := ⟨_, rfl⟩
      have HQ := Lib.hid hq
      have hNW := HA.out.1.alloc (boxP p)
      have HN := Lib.hid hNW
      have HBX := Lib.hid (Blk.new wr TP #[.int .i64 p.f, .int .i64 p.t, .string p.d])
      have HLG : Hid (g < (wr.alloc (boxP p)).heap.size) := hNW.blk.lt
      have HC1 := Lib.hid (hNW.blk.cell 1)
      have HLX : Hid (wr.heap.size < (wr.alloc (boxP p)).heap.size) := HBX.out.lt
      have HX0 := Lib.hid (HBX.out.cell 0)
      have HX1 := Lib.hid (HBX.out.cell 1)
      have HCP := Lib.hid hNW.cuts
      have HXF : Hid (¬ netF g (some r) aL mp wr.heap.size) := fun hk => by { have := HA.out.1.lt _ hk; omega }
      have HK1 : Hid (Keeps (netF g lp a mp) w (wr.alloc (boxP p))) := HA.out.2.1.alloc _
      have HG1 := Lib.hid HA.out.2.2
      have HSZ : Hid (w.heap.size ≤ wr.heap.size) := HA.out.2.1.size
      have hy9 : ys.length ≤ 900 := (ring_of HA.out.1).le
      clear hwp hq hNW HA
      obtain ⟨W, hW⟩ : ∃ W, wr.alloc (boxP p) = W := ⟨_, rfl⟩
      rw [hW] at HN HBX HLG HC1 HLX HX0 HX1 HCP HK1 ⊢
      clear hW
      obtain ⟨X, hX⟩ : ∃ X, wr.heap.size = X := ⟨_, rfl⟩
      rw [hX] at HBX HLX HX0 HX1 HXF HSZ ⊢
      clear hX
      refine wp_region_inv (fun i' v' w' => ([(fun v' _ => v' = (.pointer (some ⟨g, 0, none⟩))), (fun v' _ => v' = (.pointer (some ⟨g, 0, none⟩))), (fun v' _ => v' = (.pointer (some ⟨g, 1, none⟩))), (fun v' _ => v' = (.map mp)), (fun v' _ => v' = (.pointer (some ⟨X, 0, none⟩))), (fun v' _ => v' = (.int .i64 p.f)), (fun v' _ => v' = (.pointer (some ⟨X, 1, none⟩))), (fun v' _ => v' = (.int .i64 p.t)), (fun v' _ => v' = (pairV (min p.f p.t) (max p.f p.t))), (fun v' _ => v' = (.tuple #[.agg #[], .bool q])), (fun v' _ => v' = (.tuple #[.agg #[], .bool q])), (fun v' _ => v' = (.agg #[])), (fun v' _ => v' = (.bool q)), (fun v' w' => UnitAt v' w'), (fun _ _ => True), (fun v' _ => v' = (.bool q))] : List (Value → World → Prop)).getD i' (fun _ _ => True) v' w') (by kernel_rfl) (by kernel_rfl) (stab_list (by
          repeat (first | exact allStab_nil | refine allStab_cons (stab_eq _) ?_ | refine allStab_cons (stab_slice _ _) ?_ | refine allStab_cons stab_unit ?_ | refine allStab_cons stab_true ?_))) ?_ ?_
      · refine steps_cons rfl ?_ ?_
        · intro a w hR K hK
          have e0 : a.tmps.getD 0 undef = (.pointer (some ⟨g, 0, none⟩)) := hR.old 0 (by kernel_rfl) rfl
          rw [if_pos (wanted_none rfl)]
          have hB := hR.bel
          clear hR
          go_simp
          exact hK _ _ (belowSame _) rfl
        refine steps_cons rfl ?_ ?_
        · intro a w hR K hK
          obtain ⟨v22, e22, _, q22⟩ := hR.val 0 22 (by kernel_rfl) (by kernel_rfl)
          obtain rfl : v22 = (.pointer (some ⟨g, 0, none⟩)) := q22
          rw [if_pos (wanted_none rfl)]
          have hB := hR.bel
          clear hR
          go_simp
          exact hK _ _ (belowSame _) rfl
        refine steps_cons rfl ?_ ?_
        · intro a w hR K hK
          obtain ⟨v23, e23, _, q23⟩ := hR.val 1 23 (by kernel_rfl) (by kernel_rfl)
          obtain rfl : v23 = (.pointer (some ⟨g, 0, none⟩)) := q23
          rw [if_pos (wanted_none rfl)]
          have hB := hR.bel
          clear hR
          go_simp
          exact hK _ _ (belowSame _) rfl
        refine steps_cons rfl ?_ ?_
        · intro a w hR K hK
          obtain ⟨v24, e24, _, q24⟩ := hR.val 2 24 (by kernel_rfl) (by kernel_rfl)
          obtain rfl : v24 = (.pointer (some ⟨g, 1, none⟩)) := q24
          rw [if_pos (wanted_none rfl)]
          have hc := (hR.bel.cell (p := ⟨g, 1, none⟩) HLG.out).trans HC1.out
          clear hR
          go_simp
          exact hK _ _ (belowSame _) rfl
        refine steps_cons rfl ?_ ?_
        · intro a w hR K hK
          have e8 : a.tmps.getD 8 undef = (.pointer (some ⟨X, 0, none⟩)) := hR.old 8 (by kernel_rfl) rfl
          rw [if_pos (wanted_none rfl)]
          have hB := hR.bel
          clear hR
          go_simp
          exact hK _ _ (belowSame _) rfl
        refine steps_cons rfl ?_ ?_
        · intro a w hR K hK
          obtain ⟨v26, e26, _, q26⟩ := hR.val 4 26 (by kernel_rfl) (by kernel_rfl)
          obtain rfl : v26 = (.pointer (some ⟨X, 0, none⟩)) := q26
          rw [if_pos (wanted_none rfl)]
          have hc := (hR.bel.cell (p := ⟨X, 0, none⟩) HLX.out).trans HX0.out
          clear hR
          go_simp
          exact hK _ _ (belowSame _) rfl
        refine steps_cons rfl ?_ ?_
        · intro a w hR K hK
          have e8 : a.tmps.getD 8 undef = (.pointer (some ⟨X, 0, none⟩)) := hR.old 8 (by kernel_rfl) rfl
          rw [if_pos (wanted_none rfl)]
          have hB := hR.bel
          clear hR
          go_simp
          exact hK _ _ (belowSame _) rfl
        refine steps_cons rfl ?_ ?_
        · intro a w hR K hK
          obtain ⟨v28, e28, _, q28⟩ := hR.val 6 28 (by kernel_rfl) (by kernel_rfl)
          obtain rfl : v28 = (.pointer (some ⟨X, 1, none⟩)) := q28
          rw [if_pos (wanted_none rfl)]
          have hc := (hR.bel.cell (p := ⟨X, 1, none⟩) HLX.out).trans HX1.out
          clear hR
          go_simp
          exact hK _ _ (belowSame _) rfl
        refine steps_cons rfl ?_ ?_
        · intro a w hR K hK
          obtain ⟨v27, e27, _, q27⟩ := hR.val 5 27 (by kernel_rfl) (by kernel_rfl)
          obtain rfl : v27 = (.int .i64 p.f) := q27
          obtain ⟨v29, e29, _, q29⟩ := hR.val 7 29 (by kernel_rfl) (by kernel_rfl)
          obtain rfl : v29 = (.int .i64 p.t) := q29
          rw [if_pos (wanted_none rfl)]
          have hB := hR.bel
          clear hR
          go_simp
          refine (ends_any p.f p.t _).mono ?_
          rintro e w' ⟨rfl, hw⟩
          exact hK _ _ (by first | exact belowOfEq hw | exact hw) rfl
        refine steps_cons rfl ?_ ?_
        · intro a w hR K hK
          obtain ⟨v25, e25, _, q25⟩ := hR.val 3 25 (by kernel_rfl) (by kernel_rfl)
          obtain rfl : v25 = (.map mp) := q25
          obtain ⟨v30, e30, _, q30⟩ := hR.val 8 30 (by kernel_rfl) (by kernel_rfl)
          obtain rfl : v30 = (pairV (min p.f p.t) (max p.f p.t)) := q30
          rw [if_pos (wanted_none rfl)]
          refine wp_lookup_cut (.tmp 25) (.tmp 30) rfl e25 e30 WX.out.1 WX.out.2 (HCP.out.keeps (Keeps.of_below (belowUndrew hR.bel) (fun _ => False)) (fun _ _ h => h)) ?_
          rw [HQ.out]
          exact hK _ _ (belowSame _) rfl
        refine steps_cons rfl ?_ ?_
        · intro a w hR K hK
          obtain ⟨v31, e31, _, q31⟩ := hR.val 9 31 (by kernel_rfl) (by kernel_rfl)
          obtain rfl : v31 = (.tuple #[.agg #[], .bool q]) := q31
          rw [if_pos (wanted_none rfl)]
          have hB := hR.bel
          clear hR
          go_simp
          exact hK _ _ (belowSame _) rfl
        refine steps_cons rfl ?_ ?_
        · intro a w hR K hK
          obtain ⟨v21, e21, _, q21⟩ := hR.val 10 21 (by kernel_rfl) (by kernel_rfl)
          obtain rfl : v21 = (.tuple #[.agg #[], .bool q]) := q21
          rw [if_pos (wanted_none rfl)]
          have hB := hR.bel
          clear hR
          go_simp
          exact hK _ _ (belowSame _) rfl
        refine steps_cons rfl ?_ ?_
        · intro a w hR K hK
          obtain ⟨v21, e21, _, q21⟩ := hR.val 10 21 (by kernel_rfl) (by kernel_rfl)
          obtain rfl : v21 = (.tuple #[.agg #[], .bool q]) := q21
          rw [if_pos (wanted_none rfl)]
          have hB := hR.bel
          clear hR
          go_simp
          exact hK _ _ (belowSame _) rfl
        refine steps_cons rfl ?_ ?_
        · intro a w hR K hK
          rw [if_pos (wanted_none rfl)]
          clear hR
          go_simp
          exact hK _ _ (belowNew (belowSame _) _) ⟨_, rfl, Blk.new _ _ _⟩
        refine steps_cons rfl ?_ ?_
        · intro a w hR K hK
          obtain ⟨v9, e9, _, q9⟩ := hR.val 13 9 (by kernel_rfl) (by kernel_rfl)
          obtain ⟨v32, e32, _, q32⟩ := hR.val 11 32 (by kernel_rfl) (by kernel_rfl)
          obtain rfl : v32 = (.agg #[]) := q32
          rw [if_pos (wanted_none rfl)]
          obtain ⟨g9, rfl, b9⟩ := q9
          clear hR
          go_simp
          exact hK undef _ (belowSame _) trivial
        refine steps_cons rfl ?_ ?_
        · intro a w hR K hK
          obtain ⟨v33, e33, _, q33⟩ := hR.val 12 33 (by kernel_rfl) (by kernel_rfl)
          obtain rfl : v33 = (.bool q) := q33
          rw [if_pos (wanted_none rfl)]
          have hB := hR.bel
          clear hR
          go_simp
          exact hK _ _ (belowSame _) rfl
        exact steps_nil
      · intro a' w' hF
        obtain ⟨v10, e10, _, q10⟩ := hF.val 15 10 (by decide) (by kernel_rfl)
        obtain rfl : v10 = (.bool q) := q10
        have hB := belowUndrew hF.bel
        have hf := hF.frame
        rw [show dsts _ = [22, 23, 24, 25, 26, 27, 28, 29, 30, 31, 21, 32, 33, 9, 10] from by kernel_rfl] at hf
        obtain ⟨z22, h22⟩ : ∃ z, a'.tmps.getD 22 undef = z := ⟨_, rfl⟩
        obtain ⟨z23, h23⟩ : ∃ z, a'.tmps.getD 23 undef = z := ⟨_, rfl⟩
        obtain ⟨z24, h24⟩ : ∃ z, a'.tmps.getD 24 undef = z := ⟨_, rfl⟩
        obtain ⟨z25, h25⟩ : ∃ z, a'.tmps.getD 25 undef = z := ⟨_, rfl⟩
        obtain ⟨z26, h26⟩ : ∃ z, a'.tmps.getD 26 undef = z := ⟨_, rfl⟩
        obtain ⟨z27, h27⟩ : ∃ z, a'.tmps.getD 27 undef = z := ⟨_, rfl⟩
        obtain ⟨z28, h28⟩ : ∃ z, a'.tmps.getD 28 undef = z := ⟨_, rfl⟩
        obtain ⟨z29, h29⟩ : ∃ z, a'.tmps.getD 29 undef = z := ⟨_, rfl⟩
        obtain ⟨z30, h30⟩ : ∃ z, a'.tmps.getD 30 undef = z := ⟨_, rfl⟩
        obtain ⟨z31, h31⟩ : ∃ z, a'.tmps.getD 31 undef = z := ⟨_, rfl⟩
        obtain ⟨z21, h21⟩ : ∃ z, a'.tmps.getD 21 undef = z := ⟨_, rfl⟩
        obtain ⟨z32, h32⟩ : ∃ z, a'.tmps.getD 32 undef = z := ⟨_, rfl⟩
        obtain ⟨z33, h33⟩ : ∃ z, a'.tmps.getD 33 undef = z := ⟨_, rfl⟩
        obtain ⟨z9, h9⟩ : ∃ z, a'.tmps.getD 9 undef = z := ⟨_, rfl⟩
        simp only [List.foldl_cons, List.foldl_nil, h22, h23, h24, h25, h26, h27, h28, h29, h30, h31, h21, h32, h33, h9, e10] at hf
        simp only [List.setIfInBounds_toArray, List.set_cons_zero, List.set_cons_succ] at hf
        have hN := HN.out.old hB
        have hX := HBX.out.keeps (Keeps.of_below hB (fun _ => False)) (fun h => h)
        have HKW := Lib.hid (HK1.out.trans (Keeps.of_below hB (fun _ => False)) (fun _ _ h => h.elim))
        clear hF hB e10 h22 h23 h24 h25 h26 h27 h28 h29 h30 h31 h21 h32 h33 h9
        subst hf
        cases q
        · have d2 := hX.cell 2
          have HX := Lib.hid hX
          have HNN := Lib.hid hN
          clear hX hN
          have kcl := clone_any p.d HWP.out.2.2
          go_wp2_with (go_at_call 31; refine (kcl _).mono ?_; rintro e w5 ⟨rfl, hb5⟩; have b5 := HX.out.keeps (Keeps.of_below hb5 (fun _ => False)) (fun h => h); have b6 := b5.set_ 2 (.string p.d); have d3 := b5.cell 0; have d4 := b5.cell 1; have d5 := b5.cell 2; have f5 := b5.frozen 2; have HB6 := Lib.hid b6; have N5 := Lib.hid (HNN.out.old hb5); have HBB := Lib.hid hb5; clear b5 b6 hb5)
          have hXG : ¬ netF g (some r) aL mp X := HXF.out
          have hPN := ((N5.out.keeps (keep1 w5 X 2 (.string p.d)) (fun i h1 h2 => by { have h3 : i = X := h2; subst h3; exact hXG h1 })).alloc (boxP p))
          have hps : (w5.setCell ⟨X, 2, none⟩ (.string p.d)).heap.size = w5.heap.size := by simp [World.setCell]
          have kp := push_any (ring_of hPN) (some ⟨w5.heap.size, 0, none⟩) 1 1 (by decide) (Nat.le_refl _) [p] (by have := Lies.of_blk (Blk.new (w5.setCell ⟨X, 2, none⟩ (.string p.d)) TP #[.int .i64 p.f, .int .i64 p.t, .string p.d]); rw [hps] at this; exact ⟨rfl, fun _ => this.2 (by simp)⟩)
          have k3 : Keeps (netF g lp a mp) w ((w5.setCell ⟨X, 2, none⟩ (.string p.d)).alloc (boxP p)) := ((HKW.out.trans (Keeps.of_below HBB.out (fun _ => False)) (fun _ _ h => h.elim)).setCell (p := ⟨X, 2, none⟩) (fun h => by { have h1 : X < w.heap.size := h; have := HSZ.out; omega }) (.string p.d)).alloc (boxP p)
          have K3 := Lib.hid k3
          have HPN := Lib.hid hPN
          clear hps hPN hXG k3 HBB N5 HB6 d2 d3 d4 d5 f5
          by_cases hz : ys.length < 900
          · rw [show min 1 (900 - ys.length) = 1 by omega] at kp
            have hs1 : sendOne C ys p = ys ++ [p] := by unfold sendOne; rw [HQ.out]; simp [hz]
            have HS1 := Lib.hid hs1
            clear hs1
            go_wp2_with (go_at_call 32; refine kp.mono ?_; rintro e w6 ⟨rfl, ho6⟩; have H6 := Lib.hid (HPN.out.stepR ho6); clear ho6 kp)
            obtain ⟨a2, c2, h6, k6, g6⟩ := H6.out
            have E6 := Lib.hid (And.intro h6 (And.intro (K3.out.then_ HG1.out k6) (HG1.out.trans K3.out.size g6)))
            clear h6 k6 g6
            go_roundw
            case rel => exact ⟨k + 1, ys ++ [p], a2, c2, by omega, by go_num, ret_len (by simp; omega), by rw [sendB_snoc C xs ps k p HP.out, ← HY, HS1.out]; exact Lib.hid rfl, by simp; omega, E6.out⟩
            case measure => simp [intOf]; omega
          · rw [show min 1 (900 - ys.length) = 0 by omega, List.take_zero, List.append_nil] at kp
            have hs1 : sendOne C ys p = ys := by unfold sendOne; rw [HQ.out]; simp [hz]
            have HS1 := Lib.hid hs1
            clear hs1
            go_wp2_with (go_at_call 32; refine kp.mono ?_; rintro e w6 ⟨rfl, ho6⟩; have H6 := Lib.hid (HPN.out.stepR ho6); clear ho6 kp)
            obtain ⟨a2, c2, h6, k6, g6⟩ := H6.out
            have E6 := Lib.hid (And.intro h6 (And.intro (K3.out.then_ HG1.out k6) (HG1.out.trans K3.out.size g6)))
            clear h6 k6 g6
            go_roundw
            case rel => exact ⟨k + 1, ys, a2, c2, by omega, by go_num, ret_len (by first | omega | simp), by rw [sendB_snoc C xs ps k p HP.out, ← HY, HS1.out]; exact Lib.hid rfl, by omega, E6.out⟩
            case measure => simp [intOf]; omega
        · have HND := Lib.hid (And.intro hN (And.intro HKW.out HG1.out))
          clear hN hX
          go_wp2_with fail
          go_roundw
          case rel => exact ⟨k + 1, ys, aL, cL, by omega, by go_num, rfl, by rw [sendB_snoc C xs ps k p HP.out, ← HY]; unfold sendOne; rw [HQ.out]; rfl, hxy, HND.out⟩
          case measure => simp [intOf]; omega
    · obtain rfl : k = n := by omega
      have hy : ys = sendB C xs ps := by rw [HY.out, List.take_of_length_le (by have := HLN.out; omega)]
      have HYY := Lib.hid hy
      clear hy
      go_wp2_with fail
      go_ret
      exact ⟨by rw [← HYY.out]; rfl, HYY.out ▸ ⟨r, aL, cL, HA.out.1, HA.out.2.1, HA.out.2.2⟩⟩
end
end Go.Proofs.Ytanhdcffbdhkcaa.NT
