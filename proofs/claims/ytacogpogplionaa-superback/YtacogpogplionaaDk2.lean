/- The disk: keep, settle, Arm. No condition. -/
import Derived.Test.YtacogpogplionaaDk1
import Derived.Test.YtacogpogplionaaDkLib
import Derived.Test.YtacogpogplionaaRegInv
import Derived.Deep.RegionHeld3
namespace Go.Proofs.Ytacogpogplionaa.DK
set_option maxRecDepth 100000
open Go.RowKit Go.Proofs.Ytacogpogplionaa.MI
set_option linter.unusedVariables false
set_option linter.unusedSimpArgs false

/-- A look-up, as an equation. -/
theorem look_eq {β : Type} {E : Codec β} {P : Program} {k e t : TypeId} {w : World} {b n : Nat} {f : Int → Option β} (h : MapAt E P k w b n f) (hk : P.underlying k = some (.int .i64)) (ht : P.underlying t = some (.map k e)) (z0 : β) (hz : (zeroValue e).run P w = .ok (E.enc z0) w) (i : Int) (hi : WfI i) :
    (Instr.lookup t (.map (some b)) (.int .i64 i) false).run P w = .ok (E.enc ((f i).getD z0)) w := by
  obtain ⟨D, hown, hv⟩ := h
  obtain ⟨v, ps, hrun, hR⟩ := hown.lookup (Maps.int_keyed hk) ht hz (rdC_enc E z0) (Maps.keyOf_int_mk hk hi)
  rw [hv i hi] at hR
  obtain ⟨c, rfl, hc⟩ := rdC_inv hR
  have h1 := congrArg Prod.fst hc
  rw [hrun]
  cases hf : f i with
  | none => rw [hf] at h1; simp at h1; simp [h1]
  | some c1 => rw [hf] at h1; simp at h1; simp [h1]
def KeepOut (w : World) (lb n : Nat) (L : Int → Option Wr) (w' : World) : Prop := MapAt wcode Try.prog TI w' lb n L ∧ Keeps (only lb) w w'
theorem keepL_hit {L : Int → Option Wr} {x : Wr} (h : ((L x.a).getD wr0).s < x.s) : keepL L x = putF L x.a x := by unfold keepL; rw [if_pos h]
theorem keepL_miss {L : Int → Option Wr} {x : Wr} (h : ¬ ((L x.a).getD wr0).s < x.s) : keepL L x = L := by unfold keepL; rw [if_neg h]
theorem keep_any (w : World) (g lb N : Nat) (L : Int → Option Wr) (x : Wr) (hc : w.cell? ⟨g, 4, none⟩ = some (.map (some lb))) (hm : MapAt wcode Try.prog TI w lb N L) (hx : WfI x.a) (hn : N ≤ 1000000000) :
    Calls Try.prog 55 #[.pointer (some ⟨g, 0, none⟩), .agg #[.int .i64 x.n, .int .i64 x.a, .int .i64 x.s, .string x.d]] w fun e w' => e = .returned (.tuple #[]) ∧ KeepOut w lb (N + 1) (keepL L x) w' := by
  have cA : ∀ o, (w.alloc o).cell? ⟨g, 4, none⟩ = some (.map (some lb)) := fun o => by rw [← hc]; exact ((Keeps.refl (fun _ => False) w).alloc o).cell (World.block_lt_of_cell? w _ hc) id
  have hmA := hm.alloc (.cells #[.int .i64 x.n, .int .i64 x.a, .int .i64 x.s, .string x.d] TW)
  have hrun := look_eq hmA underI underL wr0 (zeroW _) x.a hx
  have b0 : Blk (w.alloc (.cells #[.int .i64 x.n, .int .i64 x.a, .int .i64 x.s, .string x.d] TW)) w.heap.size TW _ := Blk.new _ _ _
  have HM := Lib.hid hmA
  have K0 := Lib.hid ((Keeps.refl (only lb) w).alloc (.cells #[.int .i64 x.n, .int .i64 x.a, .int .i64 x.s, .string x.d] TW))
  obtain ⟨n, a, s, d⟩ := x
  dsimp only at *
  obtain ⟨r, hr⟩ : ∃ r, (L a).getD wr0 = r := ⟨_, rfl⟩
  rw [hr] at hrun
  obtain ⟨W, hW⟩ : ∃ W, w.alloc (.cells #[.int .i64 n, .int .i64 a, .int .i64 s, .string d] TW) = W := ⟨_, rfl⟩
  have cW := cA (.cells #[.int .i64 n, .int .i64 a, .int .i64 s, .string d] TW)
  rw [hW] at HM K0 b0 hrun cW
  have d0 := b0.cell 0; have d1 := b0.cell 1; have d2 := b0.cell 2; have d3 := b0.cell 3
  have hd : ∀ {v : Value}, (Instr.lookup 60 (.map (some lb)) (.int .i64 a) false).run Try.prog W = .ok v W → (Instr.lookup 60 (.map (some lb)) (.int .i64 a) false).run Try.prog W.drew = .ok v W.drew := fun h => by
    have h2 := look_eq HM.out.drew underI underL wr0 (zeroW _) a hx
    have h3 := look_eq HM.out underI underL wr0 (zeroW _) a hx
    rw [h3] at h
    injection h with h
    rw [← h]; exact h2
  by_cases hlt : r.s < s
  · have hk := keepL_hit (L := L) (x := ⟨n, a, s, d⟩) (by dsimp only; rw [hr]; exact hlt)
    rw [hk]
    have b1 : decide (r.s < s) = true := by simpa using hlt
    obtain ⟨rn, ra, rs, rd⟩ := r
    dsimp only at *
    have hrun' : (Instr.lookup 60 (.map (some lb)) (.int .i64 a) false).run Try.prog W.drew = .ok (.agg #[.int .i64 rn, .int .i64 ra, .int .i64 rs, .string rd]) W.drew := hd hrun
    have hfd : ∀ w : World, (Instr.field 103 (.agg #[.int .i64 rn, .int .i64 ra, .int .i64 rs, .string rd]) 2).run Try.prog w = .ok (.int .i64 rs) w := fun _ => by kernel_rfl
    clear hk hm hmA hrun hr hd cA
    go_enter Try.func55, Try.ntmps55
    go_wp2_with fail
    clear hW
    go_still (by kernel_rfl)
    have HM2 := Lib.hid HM.out.drew
    have K2 := Lib.hid K0.out.drew
    have cW2 : W.drew.cell? ⟨g, 4, none⟩ = some (.map (some lb)) := cW
    have b2 : Blk W.drew w.heap.size TW #[.int .i64 n, .int .i64 a, .int .i64 s, .string d] := b0
    clear b0 d0 d1 d2 d3
    obtain ⟨W2, hW2⟩ : ∃ W2, W2 = W.drew := ⟨_, rfl⟩
    have hW3 : ({ heap := W.heap, tape := W.tape, drawn := W.drawn + 1, os := W.os, output := W.output } : World) = W2 := hW2.symm
    rw [hW3]
    rw [← hW2] at HM2 K2 cW2 b2
    clear hW3 hW2 hrun'
    have d0 := b2.cell 0; have d1 := b2.cell 1; have d2 := b2.cell 2; have d3 := b2.cell 3
    go_wp2_with fail
    go_still_tail 7, (by kernel_rfl)
    go_wp2_with (at_mapUpdate; refine wp_store _ rfl _ _ _ 60 rfl TI TW underI underL lb N L rfl (show MapAt wcode Try.prog TI _ lb N L from HM2.out.drew) (by unfold maxLen; omega) a ⟨n, a, s, d⟩ rfl hx rfl ?_; intro w2 hm2 hg2; have R2 := Lib.hid (show KeepOut w lb (N + 1) (putF L a ⟨n, a, s, d⟩) w2 from ⟨hm2, (K2.out.drew).grown hg2 (fun k e _ => by injection e with e; exact e.symm)⟩); clear hm2 hg2)
    refine bodyPost_end (results_none rfl _ _ _) rfl ?_
    exact ⟨rfl, R2.out⟩
  · have hk := keepL_miss (L := L) (x := ⟨n, a, s, d⟩) (by dsimp only; rw [hr]; exact hlt)
    rw [hk]
    have b1 : decide (r.s < s) = false := by simpa using hlt
    obtain ⟨rn, ra, rs, rd⟩ := r
    dsimp only at *
    have hrun' : (Instr.lookup 60 (.map (some lb)) (.int .i64 a) false).run Try.prog W.drew = .ok (.agg #[.int .i64 rn, .int .i64 ra, .int .i64 rs, .string rd]) W.drew := hd hrun
    have hfd : ∀ w : World, (Instr.field 103 (.agg #[.int .i64 rn, .int .i64 ra, .int .i64 rs, .string rd]) 2).run Try.prog w = .ok (.int .i64 rs) w := fun _ => by kernel_rfl
    clear hk hm hmA hrun hr hd cA
    go_enter Try.func55, Try.ntmps55
    go_wp2_with fail
    clear hW
    go_still (by kernel_rfl)
    go_wp2_with fail
    refine bodyPost_end (results_none rfl _ _ _) rfl ?_
    exact ⟨rfl, HM.out.drew.mono (Nat.le_succ _), K0.out.drew⟩

theorem lies4 {w : World} {b off n : Nat} {ws : List Wr} (h : Lies w 4 (some ⟨b, off, none⟩) n (ws.flatMap wval)) {k : Nat} {x : Wr} (hk : ws[k]? = some x) (hn : ws.length = n) :
    w.cell? ⟨b, off + k * 4, none⟩ = some (.int .i64 x.n) ∧ w.cell? ⟨b, off + k * 4 + 1, none⟩ = some (.int .i64 x.a) ∧ w.cell? ⟨b, off + k * 4 + 2, none⟩ = some (.int .i64 x.s) ∧ w.cell? ⟨b, off + k * 4 + 3, none⟩ = some (.string x.d) := by
  have hlt : k < ws.length := (List.getElem?_eq_some_iff.1 hk).1
  obtain ⟨ad, e, hc⟩ := h.2 (by omega)
  cases e
  have hat : ∀ j, j < 4 → (ws.flatMap wval)[k * 4 + j]? = (wval x)[j]? := by
    intro j hj
    clear hc h hn
    induction ws generalizing k with
    | nil => simp at hlt
    | cons y ys ih =>
      cases k with
      | zero => simp at hk; subst hk; simp only [List.flatMap_cons]; rw [List.getElem?_append_left (by simp [wval]; omega)]; simp
      | succ k => simp only [List.flatMap_cons]; rw [List.getElem?_append_right (by simp [wval]; omega)]; rw [show (k + 1) * 4 + j - (wval y).length = k * 4 + j by simp [wval]; omega]; exact ih (by simpa using hk) (by simpa using hlt)
  have hget : ∀ j v, j < 4 → (wval x)[j]? = some v → w.cell? ⟨b, off + k * 4 + j, none⟩ = some v := by
    intro j v hj hv
    have := hc (k * 4 + j) v ((hat j hj).trans hv)
    rw [← this]
    congr 1
    unfold Addr.add
    split
    · rename_i h0; simp at h0; simp [h0]
    · simp; omega
  exact ⟨by simpa using hget 0 _ (by omega) rfl, hget 1 _ (by omega) rfl, hget 2 _ (by omega) rfl, hget 3 _ (by omega) rfl⟩
def notN (n : Int) : Wr → Bool := fun x => !decide (x.n = n)
theorem setL_succ_hit {L : Int → Option Wr} {ws : List Wr} {n : Int} {k : Nat} {x : Wr} (hx : ws[k]? = some x) (h : x.n = n) : setL L ws n (k + 1) = keepL (setL L ws n k) x := by
  have e : ws.getD k wr0 = x := by rw [List.getD_eq_getElem?_getD, hx]; rfl
  show (if (ws.getD k wr0).n = n then _ else _) = _
  rw [e, if_pos h]
theorem setL_succ_miss {L : Int → Option Wr} {ws : List Wr} {n : Int} {k : Nat} {x : Wr} (hx : ws[k]? = some x) (h : ¬ x.n = n) : setL L ws n (k + 1) = setL L ws n k := by
  have e : ws.getD k wr0 = x := by rw [List.getD_eq_getElem?_getD, hx]; rfl
  show (if (ws.getD k wr0).n = n then _ else _) = _
  rw [e, if_neg h]
theorem wfA {a : Int} (h : 0 ≤ a ∧ a < 20000) : WfI a := WalkArith.wf_i64 (by omega)
end Go.Proofs.Ytacogpogplionaa.DK
