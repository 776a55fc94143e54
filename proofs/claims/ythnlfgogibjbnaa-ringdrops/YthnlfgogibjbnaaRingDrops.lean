/- RingDrops: the walk. No condition. -/
import Derived.Test.YthnlfgogibjbnaaRingAlive
import Derived.Test.YthnlfgogibjbnaaSameInts
import Derived.Test.YthnlfgogibjbnaaRow
import Derived.Test.YthnlfgogibjbnaaSeq
namespace Go.Proofs.Ythnlfgogibjbnaa.ringDrops
open Go.RowKit
set_option linter.unusedVariables false

/-- Two rings that share no block. -/
def Two (w : World) (most gA gB : Nat) (xs ys : List Int) (wr : World) : Prop :=
  Below w.heap.size w wr ∧ ∃ a c b d, RingAt RI.val 64 3 wr w.heap.size gA most a c xs ∧ RingAt RI.val 64 3 wr w.heap.size gB most b d ys ∧ Apart (ringF gA a) (ringF gB b)

theorem Two.outA {w wr w' : World} {most gA gB : Nat} {a b : Option Addr} {c d : Nat} {xs ys xs' : List Int} (hbel : Below w.heap.size w wr) (hA : RingAt RI.val 64 3 wr w.heap.size gA most a c xs)
    (hB : RingAt RI.val 64 3 wr w.heap.size gB most b d ys) (hap : Apart (ringF gA a) (ringF gB b)) (h : RingOut RI.val 64 3 wr w.heap.size gA most a xs' w') : Two w most gA gB xs' ys w' := by
  obtain ⟨a', c', hR, hK, hG⟩ := h
  exact ⟨hA.after hbel hK, a', c', b, d, hR, hB.keeps hK hap.symm, hG.apart hap hB.lt⟩
theorem Two.outB {w wr w' : World} {most gA gB : Nat} {a b : Option Addr} {c d : Nat} {xs ys ys' : List Int} (hbel : Below w.heap.size w wr) (hA : RingAt RI.val 64 3 wr w.heap.size gA most a c xs)
    (hB : RingAt RI.val 64 3 wr w.heap.size gB most b d ys) (hap : Apart (ringF gA a) (ringF gB b)) (h : RingOut RI.val 64 3 wr w.heap.size gB most b ys' w') : Two w most gA gB xs ys' w' := by
  obtain ⟨b', d', hR, hK, hG⟩ := h
  exact ⟨hB.after hbel hK, a, c, b', d', hA.keeps hK hap, hR, (hG.apart hap.symm hA.lt).symm⟩

set_option maxRecDepth 100000 in
theorem walk (a0 : Option Addr) (len0 cap0 : Nat) (z0 : List Int) (n k v : Int) (w : World) (w0 : IsRow .i64 w a0 len0 cap0 z0) (w1 : (Lit.int .i64 n).wf = true) (w2 : (Lit.int .i64 k).wf = true) (w3 : (Lit.int .i64 v).wf = true) :
    Calls Try.prog 5 #[.slice a0 len0 cap0, .int .i64 n, .int .i64 k, .int .i64 v] w fun e w' => e = .returned (.bool true) ∧ Below w.heap.size w w' := by
  obtain ⟨hl1, hl2, hl3⟩ := w0.len
  have hcm := hl2
  unfold maxLen at hl2
  by_cases c1 : (60 : Int) < len0
  · go_enter Try.func5, Try.ntmps5
    go_wp2_with (go_at_call 10; refine (RI.alive_any _).mono ?_; rintro e w' ⟨rfl, hb⟩)
    go_ret
    exact ⟨rfl, hb⟩
  have hroom : RI.roomOf (len0 : Int) = len0 := by unfold RI.roomOf; omega
  obtain ⟨xs, hxs⟩ : ∃ xs, z0.take len0 = xs := ⟨_, rfl⟩
  have hlies : Lies w 1 a0 len0 (xs.map RI.val) := by rw [← hxs]; exact w0.lies
  have hxl : xs.length = len0 := by rw [← hxs, List.length_take]; omega
  have HXL := Lib.hid hxl
  have HL := Lib.hid hlies
  clear hxs hlies w0 w1 w2 w3 hxl
  have HRM := Lib.hid hroom
  clear hroom
  go_enter Try.func5, Try.ntmps5
  go_wp2_with fail
  refine (RI.new_any _ _).mono ?_
  rintro e wa ⟨rfl, hRa, hKa⟩
  rw [HRM.out] at hRa
  go_wp2_with fail
  refine (RI.new_any _ _).mono ?_
  rintro e wb ⟨rfl, hRb, hKb⟩
  rw [HRM.out] at hRb
  have hS : Two w len0 w.heap.size wa.heap.size [] [] wb := by
    refine ⟨hKa.belowW.trans (hKb.belowW.mono hKa.size), none, 0, none, 0, hRa.keeps hKb (fun _ _ h => h), hRb.base_ hKa.size, ?_⟩
    rintro i (hi | hi) (hj | hj)
    · have := hRa.blk.lt; omega
    · simp [Value.ownBlock] at hj
    · simp [Value.ownBlock] at hi
    · simp [Value.ownBlock] at hi
  obtain ⟨gB, hgB⟩ : ∃ gB, wa.heap.size = gB := ⟨_, rfl⟩
  rw [hgB] at hS ⊢
  clear hRa hKa hRb hKb hgB
  obtain ⟨hbel, a, c, b, d, hA, hB, hap⟩ := hS
  go_wp2_with fail
  refine (RI.push_any hA a0 len0 cap0 (by omega) hl1 xs (HL.out.old (by omega) hbel)).mono ?_
  rintro e w1 ⟨rfl, hr⟩
  rw [show min len0 (len0 - ([] : List Int).length) = len0 by simp] at hr ⊢
  have hS := Two.outA hbel hA hB hap hr
  rw [show ([] : List Int) ++ xs.take len0 = xs by rw [List.nil_append, List.take_of_length_le (by rw [HXL.out]; exact Nat.le_refl _)]] at hS
  clear hbel hA hB hap hr
  obtain ⟨hbel, a, c, b, d, hA, hB, hap⟩ := hS
  go_wp2_with fail
  refine (RI.push_any hB a0 len0 cap0 (by omega) hl1 xs (HL.out.old (by omega) hbel)).mono ?_
  rintro e w2 ⟨rfl, hr⟩
  rw [show min len0 (len0 - ([] : List Int).length) = len0 by simp] at hr ⊢
  have hS := Two.outB hbel hA hB hap hr
  rw [show ([] : List Int) ++ xs.take len0 = xs by rw [List.nil_append, List.take_of_length_le (by rw [HXL.out]; exact Nat.le_refl _)]] at hS
  clear hbel hA hB hap hr
  obtain ⟨hbel, a, c, b, d, hA, hB, hap⟩ := hS
  go_wp2_with fail
  refine (RI.drop_any hA n).mono ?_
  rintro e w3 ⟨rfl, hr⟩
  have hS := Two.outA hbel hA hB hap hr
  rw [HXL.out] at hS ⊢
  clear hbel hA hB hap hr
  obtain ⟨m, hm⟩ : ∃ m, min n.toNat len0 = m := ⟨_, rfl⟩
  have hml : m ≤ len0 := by omega
  rw [hm] at hS ⊢
  clear hm
  go_wp2_with fail
  go_loopw [12] (fun i wr => ∃ j : Nat, i = .int .i64 (j : Int) ∧ j ≤ m ∧ Two w len0 w.heap.size gB (xs.drop m) (xs.drop j) wr) (fun i _ => m - (intOf i).toNat)
  case atStart => exact ⟨0, rfl, by omega, by simpa using hS⟩
  case round =>
    clear hS
    obtain ⟨j, rfl, hj, hbel, a, c, b, d, hA, hB, hap⟩ := hrel
    by_cases hlt : j < m
    · have e1 : xs.drop j = xs[j]'(by have := HXL.out; omega) :: xs.drop (j + 1) := List.drop_eq_getElem_cons _
      rw [e1] at hB
      clear e1
      go_wp2_with fail
      refine (RI.pop_cons hB).mono ?_
      rintro e w4 ⟨rfl, hr⟩
      have hS := Lib.hid (Two.outB hbel hA hB hap hr)
      clear hr
      go_wp2_with fail
      go_roundw
      case rel => exact ⟨j + 1, by go_num, by omega, hS.out⟩
      case measure => simp [intOf]; omega
    · obtain rfl : j = m := by omega
      have hdl : (xs.drop j).length ≤ len0 := by have := HXL.out; rw [List.length_drop]; omega
      obtain ⟨ys, hys⟩ : ∃ ys, xs.drop j = ys := ⟨_, rfl⟩
      rw [hys] at hA hB hdl
      clear hys
      go_wp2_with fail
      refine (RI.list_any hA).mono ?_
      rintro e w4 ⟨a4, c4, rfl, ho4, hk4⟩
      have hA4 := hA.keeps hk4 (fun _ _ h => h)
      have hB4 := hB.keeps hk4 (fun _ _ h => h)
      have hb4 := hbel.trans (hk4.belowW.mono hbel.size)
      clear hA hB hk4 hbel
      go_wp2_with fail
      refine (RI.list_any hB4).mono ?_
      rintro e w5 ⟨a5, c5, rfl, ho5, hk5⟩
      have hA5 := hA4.keeps hk5 (fun _ _ h => h)
      have hb5 := hb4.trans (hk5.belowW.mono hb4.size)
      have hl5 := Lies.of_own (own_keeps ho4 hk5 (fun _ _ h => h))
      clear hA4 hB4 ho4 hk5 hb4 hap
      go_wp2_with fail
      refine (Bk.same_ints a4 a5 ys.length c4 c5 ys w5 hl5 (Lies.of_own ho5) (by unfold maxLen; omega)).mono ?_
      rintro e w' ⟨rfl, nd, rfl⟩
      have hA6 := hA5.drewN nd
      have hb6 := belowDrewN hb5 nd
      clear hA5 hb5 hl5 ho5
      obtain ⟨w6, hw6⟩ : ∃ w6, w5.drewN nd = w6 := ⟨_, rfl⟩
      rw [hw6] at hA6 hb6 ⊢
      clear hw6
      go_wp2_with fail
      refine (RI.list_any hA6).mono ?_
      rintro e w7 ⟨a7, c7, rfl, ho7, hk7⟩
      have hA7 := hA6.keeps hk7 (fun _ _ h => h)
      have hb7 := hb6.trans (hk7.belowW.mono hb6.size)
      have hfr := own_fresh ho7 hA6.lt
      clear hA6 hb6 hk7
      by_cases hk : 0 ≤ k ∧ k < (ys.length : Int)
      · obtain ⟨hk0, hk1⟩ := hk
        go_wp2_with fail
        refine (RI.set_in hA7 k v hk0 hk1).mono ?_
        rintro e w8 ⟨rfl, hA8, hk8⟩
        have hb8 := hA7.after hb7 hk8
        have ho8 := own_keeps ho7 hk8 hfr
        clear hA7 hb7 hfr ho7 hk8
        go_wp2_with fail
        refine (RI.list_any hA8).mono ?_
        rintro e w9 ⟨a9, c9, rfl, ho9, hk9⟩
        have hb9 := hb8.trans (hk9.belowW.mono hb8.size)
        have hl7 := Lies.of_own (own_keeps ho8 hk9 (fun _ _ h => h))
        have hl9 := Lies.of_own ho9
        clear hA8 hb8 ho8 ho9 hk9
        have hyl : ys.length ≤ 60 := by omega
        go_wp2_with fail
        go_loopw [16] (fun i wr => ∃ i' m' : Nat, i = .int .i64 (i' : Int) ∧ i' ≤ ys.length ∧ wr = w9.drewN m') (fun i _ => ys.length - (intOf i).toNat)
        case atStart => exact ⟨0, 0, rfl, by omega, rfl⟩
        case round =>
          obtain ⟨i, m', rfl, hi, rfl⟩ := hrel
          by_cases hil : i < ys.length
          · obtain ⟨ad, u, rfl, hx, hc⟩ := hl7.at_ hil
            obtain ⟨bd, u', rfl, hx', hc'⟩ := hl9.at_ (by simpa using hil)
            have e1 : u = .int .i64 (ys[i]) := by rw [List.getElem?_map, List.getElem?_eq_getElem hil] at hx; exact (Option.some.inj hx).symm
            have e2 : u' = .int .i64 (if k.toNat = i then v else ys[i]) := by
              rw [List.getElem?_map, List.getElem?_set] at hx'
              by_cases hki : k.toNat = i
              · rw [if_pos hki] at hx' ⊢
                rw [if_pos (by omega)] at hx'
                exact (Option.some.inj hx').symm
              · rw [if_neg hki] at hx' ⊢
                rw [List.getElem?_eq_getElem hil] at hx'
                exact (Option.some.inj hx').symm
            generalize ys[i] = y at e1 e2
            subst e1
            subst e2
            clear hx hx' hl7 hl9 HL
            by_cases hik : (i : Int) = k
            · rw [if_pos (by omega)] at hc'
              have g1 : ((i : Int) != k) = false := by simpa using hik
              have g2 : ((i : Int) == k) = true := by simpa using hik
              clear hik
              go_wp2
              go_quiet (fail)
              go_wp2
              go_roundw
              case rel => exact ⟨i + 1, _, by go_num, by omega, rfl⟩
              case measure => simp [intOf]; omega
            · rw [if_neg (by omega)] at hc'
              have g1 : ((i : Int) != k) = true := by simpa using hik
              have g2 : ((i : Int) == k) = false := by simpa using hik
              clear hik
              go_wp2
              go_quiet (fail)
              go_wp2
              go_roundw
              case rel => exact ⟨i + 1, _, by go_num, by omega, rfl⟩
              case measure => simp [intOf]; omega
          · clear hl7 hl9 HL
            go_wp2_with (go_at_call 10; refine (RI.alive_any _).mono ?_; rintro e w' ⟨rfl, hb⟩)
            go_ret
            exact ⟨rfl, (belowDrewN hb9 m').trans (hb.mono hb9.size)⟩
      · go_wp2_with fail
        refine (RI.set_out hA7 k v (by omega)).mono ?_
        rintro e w8 ⟨rfl, rfl⟩
        clear hfr
        go_wp2_with fail
        refine (RI.list_any hA7).mono ?_
        rintro e w9 ⟨a9, c9, rfl, ho9, hk9⟩
        have hb9 := hb7.trans (hk9.belowW.mono hb7.size)
        have hl7 := Lies.of_own (own_keeps ho7 hk9 (fun _ _ h => h))
        have hl9 := Lies.of_own ho9
        clear hA7 hb7 ho7 ho9 hk9
        have hyl : ys.length ≤ 60 := by omega
        go_wp2_with fail
        go_loopw [16] (fun i wr => ∃ i' m' : Nat, i = .int .i64 (i' : Int) ∧ i' ≤ ys.length ∧ wr = w9.drewN m') (fun i _ => ys.length - (intOf i).toNat)
        case atStart => exact ⟨0, 0, rfl, by omega, rfl⟩
        case round =>
          obtain ⟨i, m', rfl, hi, rfl⟩ := hrel
          by_cases hil : i < ys.length
          · obtain ⟨ad, u, rfl, hx, hc⟩ := hl7.at_ hil
            obtain ⟨bd, u', rfl, hx', hc'⟩ := hl9.at_ hil
            have e1 : u = .int .i64 (ys[i]) := by rw [List.getElem?_map, List.getElem?_eq_getElem hil] at hx; exact (Option.some.inj hx).symm
            have e2 : u' = .int .i64 (ys[i]) := by rw [List.getElem?_map, List.getElem?_eq_getElem hil] at hx'; exact (Option.some.inj hx').symm
            generalize ys[i] = y at e1 e2
            subst e1
            subst e2
            clear hx hx' hl7 hl9 HL
            have g0 : ¬ (i : Int) = k := by omega
            have g1 : ((i : Int) != k) = true := by simpa using g0
            have g2 : ((i : Int) == k) = false := by simpa using g0
            clear hk g0
            go_wp2
            go_quiet (fail)
            go_wp2
            go_roundw
            case rel => exact ⟨i + 1, _, by go_num, by omega, rfl⟩
            case measure => simp [intOf]; omega
          · clear hl7 hl9 HL
            have hin : ¬ (0 ≤ k ∧ k < (ys.length : Int)) := hk
            by_cases hk0 : k < 0
            · clear hk hin
              go_wp2_with (go_at_call 10; refine (RI.alive_any _).mono ?_; rintro e w' ⟨rfl, hb⟩)
              go_ret
              exact ⟨rfl, (belowDrewN hb9 m').trans (hb.mono hb9.size)⟩
            · have hk1 : (ys.length : Int) ≤ k := by omega
              have hk2 : decide (k < (ys.length : Int)) = false := by simpa using hk1
              clear hk hin
              go_wp2_with (go_at_call 10; refine (RI.alive_any _).mono ?_; rintro e w' ⟨rfl, hb⟩)
              go_ret
              exact ⟨rfl, (belowDrewN hb9 m').trans (hb.mono hb9.size)⟩
end Go.Proofs.Ythnlfgogibjbnaa.ringDrops
