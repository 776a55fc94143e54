/- NetPlays' reference: Cut. No condition. -/
import Derived.Test.YtanhdcffbdhkcaaNp6
namespace Go.Proofs.Ytanhdcffbdhkcaa.NP
set_option maxRecDepth 100000
set_option maxRecDepth 100000
open Go.RowKit Go.Proofs.Ytanhdcffbdhkcaa.RP Go.Proofs.Ytanhdcffbdhkcaa.CM Go.Proofs.Ytanhdcffbdhkcaa.NT
set_option linter.unusedVariables false
set_option linter.unusedSimpArgs false

abbrev TC : TypeId := 63
def isP (x y : Int) (c : Int × Int) : Bool := c.1 == min x y && c.2 == max x y
def restC (x y : Int) (cs : List (Int × Int)) : List (Int × Int) := cs.filter fun c => !isP x y c
def cutL (cs : List (Int × Int)) (x y : Int) (on : Bool) : List (Int × Int) := if on then restC x y cs ++ [(min x y, max x y)] else restC x y cs
theorem restC_succ {x y : Int} {cs : List (Int × Int)} {k : Nat} {c : Int × Int} (hc : cs[k]? = some c) : restC x y (cs.take (k + 1)) = if isP x y c then restC x y (cs.take k) else restC x y (cs.take k) ++ [c] := by
  unfold restC
  rw [List.take_add_one, hc, List.filter_append]
  cases h : isP x y c <;> simp [h]
theorem restC_len (x y : Int) (cs : List (Int × Int)) : (restC x y cs).length ≤ cs.length := List.length_filter_le _ _
theorem infoC : (Try.prog.info? TC).map (fun i => (i.zero, i.size, i.bytes)) = some (some (.agg #[.int .i64 0, .int .i64 0]), 2, 16) := by kernel_rfl
theorem row_moreG {e : TypeId} {sz : Nat} {w W W' : World} {a : Option Addr} {c n : Nat} {zs : List Value} (h : W.ownsRow w.heap.size e sz (.slice a n c) n zs) (hb : Below w.heap.size w W) (hg : W.grownBy W' (Value.slice a 0 0).ownBlock) : Below w.heap.size w W' := by
  have k1 : Keeps (fun k => w.heap.size ≤ k) W W' := (Keeps.refl _ _).grown hg (fun k hk _ => (h.lt k (by rw [own_blk]; exact hk)).1)
  exact k1.after hb (fun _ h => h) hb.size
theorem lies_pair (W : World) (p q : Int) : Lies (W.alloc (.cells #[.int .i64 p, .int .i64 q] TC)) 2 (some ⟨W.heap.size, 0, none⟩) 1 [.int .i64 p, .int .i64 q] := by
  have := Lies.of_blk (Blk.new W TC #[.int .i64 p, .int .i64 q])
  exact ⟨rfl, fun _ => this.2 (by simp)⟩
theorem one_pair (p q : Int) : ∀ u ∈ ([.int .i64 p, .int .i64 q] : List Value), u.oneCell' = true := by intro u hu; simp at hu; rcases hu with rfl | rfl <;> rfl
section
variable {w w' W w1 : World} {B r c kc : Nat} {a ka : Option Addr} {xs ys : List Pk} {cs : List (Int × Int)}
set_option maxHeartbeats 16000000 in
theorem rcut_any (h : RefAt w B r a c ka kc ys cs) (x y : Int) (on : Bool) (hcs : cs.length ≤ 1000) :
    Calls Try.prog 26 #[.pointer (some ⟨r, 0, none⟩), .int .i64 x, .int .i64 y, .bool on] w fun e w' => e = .returned (.tuple #[]) ∧ RefOut w B r a ka ys (cutL cs x y on) w' := by
  obtain ⟨i0, hi, hz0, hz1, hz2⟩ := info_parts infoC
  obtain ⟨M, hM⟩ : ∃ M, cs.length = M := ⟨_, rfl⟩
  rw [hM] at hcs
  have c1' : w.cell? ⟨r, 1, none⟩ = some (.slice ka M kc) := by rw [← hM]; exact h.blk.cell 1
  have hrl := h.blk.lt
  have HH := Lib.hid h
  have HM := Lib.hid hM
  have XC := Lib.hid (fun (W : World) (hb : Below w.heap.size w W) => show W.cell? ⟨r, 1, none⟩ = some (.slice ka M kc) from (hb.cell hrl).trans c1')
  clear h hM hrl c1'
  go_enter Try.func26, Try.ntmps26
  go_wp2_with fail
  go_loopw [8, 9] (fun s i wr => ∃ (m n : Nat) (a' : Option Addr) (c' : Nat), m ≤ M ∧ n ≤ m ∧ i = .int .i64 (m : Int) ∧ s = .slice a' n c' ∧ Hid ((restC x y (cs.take m)).length = n ∧ wr.ownsRow w.heap.size TC 2 (.slice a' n c') n ((restC x y (cs.take m)).flatMap val2) ∧ Below w.heap.size w wr)) (fun _ i _ => M - (intOf i).toNat)
  case atStart => exact ⟨0, 0, none, 0, by omega, by omega, rfl, rfl, Lib.hid ⟨rfl, World.ownsRow_nil _ _ _ _, belowSame _⟩⟩
  case round =>
    obtain ⟨m, n, a', c', hm, hnm, rfl, rfl, H⟩ := hrel
    have y1 := XC.out _ H.out.2.2
    by_cases hml : m < M
    · obtain ⟨bc, qc, rfl, hq, hbc, hkc, u0, u1⟩ := (HH.out.old H.out.2.2).cutAt (k := m) (by have := HM.out; omega)
      have hsuc := restC_succ (x := x) (y := y) hq
      have HSC := Lib.hid hsuc
      have e2 : IntKind.i64.wrap ((m : Int) + 1) = (m : Int) + 1 := IntWalk.i64_in _ (by omega)
      clear hsuc hq
      obtain ⟨qa, qb⟩ := qc
      dsimp only at u0 u1
      obtain ⟨t, ht⟩ : ∃ t, isP x y (qa, qb) = t := ⟨_, rfl⟩
      have heq : ∀ W : World, (Op.equalIn 10000 63 (.agg #[.int .i64 qa, .int .i64 qb]) (.agg #[.int .i64 (min x y), .int .i64 (max x y)])).run Try.prog W = .ok t W := fun W => by rw [pair_eq, ← ht]; rfl
      have HT := Lib.hid ht
      have HHC := Lib.hid (And.intro u0 (And.intro u1 hbc))
      clear ht
      go_wp2_with fail
      go_region_held3 (fun W => W.cell? ⟨r, 1, none⟩ = some (.slice (some ⟨bc, 0, none⟩) M kc) ∧ W.cell? ⟨bc, m * 2, none⟩ = some (.int .i64 qa) ∧ W.cell? ⟨bc, m * 2 + 1, none⟩ = some (.int .i64 qb)) (go_keep) (first
        | (go_at_call 38; refine (rends_any x y _).mono ?_; rintro e w5 ⟨rfl, hb5⟩; have HB5 := Lib.hid (belowThen (belowDrew (belowSame _)) hb5); have s0 := XC.out w5 (belowThen H.out.2.2 (belowThen (belowDrew (belowSame _)) hb5)); have s3 : w5.cell? ⟨bc, m * 2, none⟩ = some (.int .i64 qa) := (hb5.cell HHC.out.2.2).trans HHC.out.1; have s4 : w5.cell? ⟨bc, m * 2 + 1, none⟩ = some (.int .i64 qb) := (hb5.cell HHC.out.2.2).trans HHC.out.2.1; clear hb5))
      have ho5 := own_keeps H.out.2.1 (Keeps.of_below HB5.out (fun _ => False)) (fun _ _ h => h)
      have hb5 := belowThen H.out.2.2 HB5.out
      cases t
      · have ho6 := own_keeps ho5 ((Keeps.refl (fun _ => False) w5).alloc (.cells #[.int .i64 qa, .int .i64 qb] TC)) (fun _ _ h => h)
        have hb6 := belowNew hb5 (.cells #[.int .i64 qa, .int .i64 qb] TC)
        have hl6 := lies_pair w5 qa qb
        have hf : ∀ (w7 : World) (a7 : Option Addr) (c7 : Nat), w7.ownsRow w.heap.size TC 2 (.slice a7 (n + 1) c7) (n + 1) ((restC x y (cs.take m)).flatMap val2 ++ [.int .i64 qa, .int .i64 qb]) → (restC x y (cs.take (m + 1))).length = n + 1 ∧ w7.ownsRow w.heap.size TC 2 (.slice a7 (n + 1) c7) (n + 1) ((restC x y (cs.take (m + 1))).flatMap val2) := fun w7 a7 c7 ho => by
          rw [HSC.out, HT.out]
          refine ⟨by have := H.out.1; simp; omega, ?_⟩
          simp only [Bool.false_eq_true, if_false]
          rw [List.flatMap_append]
          simpa [val2] using ho
        have HF := Lib.hid hf
        have HB6 := Lib.hid hb6
        have HO6 := Lib.hid ho6
        clear ho5 hb5 hf hb6 ho6 heq
        go_wp2_with (at_builtin; refine wpList_append_lie _ rfl _ _ 41 rfl w.heap.size TC i0 _ 2 16 Try.underlying41 hi hz0 hz1 hz2 rfl (by decide) a' n c' ((restC x y (cs.take m)).flatMap val2) rfl HO6.out (some ⟨w5.heap.size, 0, none⟩) 1 1 [.int .i64 qa, .int .i64 qb] rfl hl6 (one_pair qa qb) (by unfold maxLen; omega) (by omega) HB6.out.size ?_; intro a7 c7 w7 ho7 hg7 hat7; have R7 := Lib.hid (HF.out w7 a7 c7 ho7); have B7 := Lib.hid (row_moreG HO6.out HB6.out hg7); clear ho7 hg7 hat7 hl6)
        go_roundw
        case rel => exact ⟨m + 1, n + 1, a7, c7, by omega, by omega, by go_num, rfl, Lib.hid ⟨R7.out.1, R7.out.2, B7.out⟩⟩
        case measure => simp [intOf]; omega
      · have hE : (restC x y (cs.take (m + 1))).length = n ∧ w5.ownsRow w.heap.size TC 2 (.slice a' n c') n ((restC x y (cs.take (m + 1))).flatMap val2) ∧ Below w.heap.size w w5 := by
          rw [HSC.out, HT.out]
          exact ⟨H.out.1, ho5, hb5⟩
        have HE := Lib.hid hE
        clear hE ho5 hb5 heq
        go_wp2_with fail
        go_roundw
        case rel => exact ⟨m + 1, n, a', c', by omega, by omega, by go_num, rfl, Lib.hid HE.out⟩
        case measure => simp [intOf]; omega
    · obtain rfl : m = M := by omega
      have hall : cs.take m = cs := List.take_of_length_le (by rw [HM.out]; omega)
      have hH := H.out
      rw [hall] at hH
      obtain ⟨hl, ho, hb⟩ := hH
      have HO := Lib.hid ho
      have HB := Lib.hid hb
      have HL := Lib.hid hl
      clear hall hl ho hb H
      cases on
      · have c1 := XC.out _ HB.out
        have f1 := (HH.out.blk.below HB.out HH.out.blk.lt).frozen 1
        have hE := HH.out.putC (ds := cutL cs x y false) HB.out HO.out HL.out.symm
        have HE := Lib.hid hE
        clear hE
        go_wp2_with fail
        exact bodyPost_end (results_none rfl _ _ _) rfl ⟨rfl, HE.out⟩
      · go_wp2_with (first
          | (go_at_call 38; refine (rends_any x y _).mono ?_; rintro e w5 ⟨rfl, hb5⟩; have ho6 := own_keeps (own_keeps HO.out (Keeps.of_below hb5 (fun _ => False)) (fun _ _ h => h)) ((Keeps.refl (fun _ => False) w5).alloc (.cells #[.int .i64 (min x y), .int .i64 (max x y)] TC)) (fun _ _ h => h); have hb6 := belowNew (belowThen HB.out hb5) (.cells #[.int .i64 (min x y), .int .i64 (max x y)] TC); have hl6 := lies_pair w5 (min x y) (max x y); have HO6 := Lib.hid ho6; have HB6 := Lib.hid hb6; clear hb5 ho6 hb6; unfold pairV)
          | (at_builtin; refine wpList_append_lie _ rfl _ _ 41 rfl w.heap.size TC i0 _ 2 16 Try.underlying41 hi hz0 hz1 hz2 rfl (by decide) a' n c' ((restC x y cs).flatMap val2) rfl HO6.out (some ⟨w5.heap.size, 0, none⟩) 1 1 [.int .i64 (min x y), .int .i64 (max x y)] rfl hl6 (one_pair _ _) (by unfold maxLen; omega) (by omega) HB6.out.size ?_; intro a7 c7 w7 ho7 hg7 hat7; have b7 := row_moreG HO6.out HB6.out hg7; have c1 := XC.out w7 b7; have f1 := (HH.out.blk.below b7 HH.out.blk.lt).frozen 1; have hE := HH.out.putC (ds := cutL cs x y true) b7 (n := n + 1) (by have e : (cutL cs x y true).flatMap val2 = (restC x y cs).flatMap val2 ++ [.int .i64 (min x y), .int .i64 (max x y)] := (by show (restC x y cs ++ [_]).flatMap val2 = _; rw [List.flatMap_append]; simp [val2]); rw [e]; exact ho7) (by have := HL.out; show n + 1 = (restC x y cs ++ [_]).length; rw [List.length_append]; simp; omega); have HE := Lib.hid hE; clear ho7 hg7 hat7 hl6 b7 hE))
        exact bodyPost_end (results_none rfl _ _ _) rfl ⟨rfl, HE.out⟩
end
end Go.Proofs.Ytanhdcffbdhkcaa.NP
