/- The clock's step. No condition. -/
import Derived.Test.YtepemmommldbeaaClock
namespace Go.Proofs.Ytepemmommldbeaa.CL
open Go.RowKit
set_option linter.unusedVariables false

/-- What holds behind the step's stores: the clock turned, its ring as it was, in a world w1. -/
def Mid (w : World) (B g q : Nat) (now real : Int) (xs : List Int) (b : Bool) (F : Nat → Prop) (w1 : World) : Prop :=
  ∃ a c, Blk w1 g TC (cells now real (some ⟨q, 0, none⟩) b) ∧ RingAt RI.val 53 3 w1 B q 8 a c xs ∧ Keeps F w w1 ∧ Grows w F (fun k => k = g ∨ ringF q a k)

/-- The ring is turned by a call. -/
theorem Mid.turn {w w1 w2 : World} {B g q : Nat} {now real : Int} {xs ys : List Int} {b : Bool} {F : Nat → Prop} {a : Option Addr} {c : Nat}
    (hb : Blk w1 g TC (cells now real (some ⟨q, 0, none⟩) b)) (hR : RingAt RI.val 53 3 w1 B q 8 a c xs) (hk : Keeps F w w1) (hg : Grows w F (fun k => k = g ∨ ringF q a k))
    (ho : RingOut RI.val 53 3 w1 B q 8 a ys w2) : Mid w B g q now real ys b F w2 := by
  obtain ⟨a2, c2, hR2, hk2, hg2⟩ := ho
  have hn := ring_ne hb hR
  refine ⟨a2, c2, hb.keeps hk2 hn, hR2, hk.trans hk2 (fun i hi hs => ?_), fun k hk' => ?_⟩
  · rcases hg i (.inr hs) with h1 | h1
    · exact h1
    · omega
  · rcases hk' with rfl | hk'
    · rcases hg k (.inl rfl) with h1 | h1
      · exact .inl h1
      · exact .inr h1
    · rcases hg2 k hk' with h1 | h1
      · exact hg k (.inr h1)
      · exact .inr (Nat.le_trans hk.size h1)

/-- A row made by the call, a draw: the clock stands. -/
theorem Mid.new {w w1 w2 : World} {B g q : Nat} {now real : Int} {xs : List Int} {b : Bool} {F : Nat → Prop} (h : Mid w B g q now real xs b F w1) (hk : Keeps (fun _ => False) w1 w2) : Mid w B g q now real xs b F w2 := by
  obtain ⟨a, c, hb, hR, hk1, hg⟩ := h
  exact ⟨a, c, hb.keeps hk (fun h => h), hR.keeps hk (fun _ _ h => h), hk1.trans hk (fun _ _ h => h.elim), hg⟩
theorem Mid.out {w w1 : World} {B g q : Nat} {now real : Int} {xs : List Int} {b : Bool} {F : Nat → Prop} (h : Mid w B g q now real xs b F w1) (hB : B ≤ g) (hx : Small xs) : StepOut w B g now real xs b F w1 := by
  obtain ⟨a, c, hb, hR, hk1, hg⟩ := h
  exact ⟨_, ⟨hB, hx, .inr ⟨q, a, c, hb, hR, rfl⟩⟩, hk1, hg⟩
theorem Mid.broke {w w1 : World} {B g q : Nat} {now real : Int} {xs : List Int} {b : Bool} {F : Nat → Prop} (h : Mid w B g q now real xs b F w1) (hl : ∀ k, F k → k < w.heap.size) (hgF : F g) : Mid w B g q now real xs true F (w1.setCell ⟨g, 3, none⟩ (.bool true)) := by
  obtain ⟨a, c, hb, hR, hk1, hg⟩ := h
  have hn := ring_ne hb hR
  exact ⟨a, c, hb.set_ 3 (.bool true), hR.keeps (keep1 w1 g 3 _) (fun k h1 h2 => hn (by rw [← h2]; exact h1)), hk1.setCell (p := ⟨g, 3, none⟩) (fun _ => hgF) _, hg⟩

theorem Mid.two {w w1 : World} {B g q : Nat} {now real : Int} {xs : List Int} {b : Bool} {F : Nat → Prop} (n' r' : Int) (h : Mid w B g q now real xs b F w1) (hgF : F g) :
    Mid w B g q n' r' xs b F ((w1.setCell ⟨g, 0, none⟩ (.int .i64 n')).setCell ⟨g, 1, none⟩ (.int .i64 r')) ∧
    Mid w B g q n' r' xs b F ((w1.setCell ⟨g, 1, none⟩ (.int .i64 r')).setCell ⟨g, 0, none⟩ (.int .i64 n')) := by
  obtain ⟨a, c, hb, hR, hk1, hg⟩ := h
  have hn := ring_ne hb hR
  exact ⟨⟨a, c, (hb.set_ 0 _).set_ 1 _, hR.keeps (keep2 w1 g 0 1 _ _) (fun k h1 h2 => hn (by rw [← h2]; exact h1)), hk1.trans (keep2 w1 g 0 1 _ _) (fun k _ h => by rw [h]; exact hgF), hg⟩,
    ⟨a, c, (hb.set_ 1 _).set_ 0 _, hR.keeps (keep2 w1 g 1 0 _ _) (fun k h1 h2 => hn (by rw [← h2]; exact h1)), hk1.trans (keep2 w1 g 1 0 _ _) (fun k _ h => by rw [h]; exact hgF), hg⟩⟩
theorem Mid.ofRing {w : World} {B g q : Nat} {now real : Int} {xs : List Int} {b : Bool} {a : Option Addr} {c : Nat} (hb : Blk w g TC (cells now real (some ⟨q, 0, none⟩) b)) (hR : RingAt RI.val 53 3 w B q 8 a c xs) :
    Mid w B g q now real xs b (fun k => k = g ∨ ringF q a k) w := ⟨a, c, hb, hR, Keeps.refl _ _, Grows.refl _ _⟩
theorem Mid.ofNil {w w1 : World} {B g : Nat} {now real : Int} {b : Bool} (hB : B ≤ g) (hb : Blk w g TC (cells now real none b)) (hR : RingAt RI.val 53 3 w1 w.heap.size w.heap.size 8 none 0 []) (hK : Keeps (fun _ => False) w w1) :
    Mid w B g w.heap.size now real [] b (only g) (w1.setCell ⟨g, 2, none⟩ (.pointer (some ⟨w.heap.size, 0, none⟩))) := by
  have hb1 := hb.keeps hK (fun h => h)
  have hR1 : RingAt RI.val 53 3 w1 B w.heap.size 8 none 0 [] := hR.base_ (by have := hb.lt; omega)
  have hn := ring_ne hb1 hR1
  refine ⟨none, 0, hb1.set_ 2 _, hR1.keeps (keep1 w1 g 2 _) (fun k h1 h2 => hn (by rw [← h2]; exact h1)), (hK.mono (S' := only g) (fun _ _ h => h.elim)).trans (keep1 w1 g 2 _) (fun k _ h => h), fun k hk => ?_⟩
  rcases hk with h | h | h
  · exact .inl h
  · exact .inr (by omega)
  · simp [Value.ownBlock] at h
theorem Mid.drewN {w w1 : World} {B g q : Nat} {now real : Int} {xs : List Int} {b : Bool} {F : Nat → Prop} (h : Mid w B g q now real xs b F w1) (n : Nat) : Mid w B g q now real xs b F (w1.drewN n) := h.new ((Keeps.refl _ _).drewN n)

set_option maxHeartbeats 1600000 in
set_option maxRecDepth 100000 in
theorem step_mid {w : World} {B g : Nat} {now real : Int} {xs : List Int} {b : Bool} {F : Nat → Prop} (h : ClockIs w B g now real xs b F) (h0 : 0 ≤ now) (h1 : now ≤ 100000) (h2 : 0 ≤ real) (h3 : real ≤ 100000) (n cl nw rl : Int) (xs1 : List Int) (bb : Bool)
    (hcl : Hid (clampI n = cl)) (hc0 : 0 ≤ cl) (hc1 : cl ≤ 8) (hnw : Hid (now + cl = nw)) (hrl : Hid (real + 1 = rl)) (HX : Hid ((if xs.length = 8 then xs.drop 1 else xs) = xs1)) (hsm : Small (xs1 ++ [cl])) (hlt : xs1.length < 8)
    (HB : Hid ((b || badW (xs1 ++ [cl])) = bb)) :
    Calls Try.prog 12 #[.pointer (some ⟨g, 0, none⟩), .int .i64 n] w fun e w' => e = .returned (.int .i64 nw) ∧
      StepOut w B g nw rl (xs1 ++ [cl]) bb F w' := by
  have hgF : F g := by
    obtain ⟨_, _, ⟨_, _, rfl⟩ | ⟨q, a, c, _, _, rfl⟩⟩ := h
    · exact rfl
    · exact .inl rfl
  have hB : B ≤ g := h.1
  have hFl := h.lt
  go_enter Try.func12, Try.ntmps12
  obtain ⟨p, hp⟩ := h.blk
  have c2 : w.cell? ⟨g, 2, none⟩ = some (.pointer p) := hp.cell 2
  go_upto_if 14 with fail
  go_cut [1] (fun r wx => ∃ q, r = .int .i64 n ∧ Mid w B g q now real xs b F wx)
  case first =>
    obtain ⟨_, _, ⟨rfl, hb, rfl⟩ | ⟨q, a, c, hb, hR, rfl⟩⟩ := h
    · obtain rfl : p = none := by have := hb.cell 2; rw [c2] at this; injection this with this; injection this
      go_wp2_with fail
      refine (RI.new_any 8 _).mono ?_
      rintro e w1 ⟨rfl, hR, hK⟩
      have hb1 := hb.keeps hK (fun h => h)
      have c2' : w1.cell? ⟨g, 2, none⟩ = some (.pointer none) := hb1.cell 2
      have f2 := hb1.frozen 2
      have hm := Lib.hid (Mid.ofNil hB hb hR hK)
      clear hb1 hR hK c2
      go_wp2_with fail
      go_meet
      exact ⟨_, rfl, hm.out⟩
    · obtain rfl : p = some ⟨q, 0, none⟩ := by have := hb.cell 2; rw [c2] at this; injection this with this; injection this
      go_wp2_with fail
      go_meet
      exact ⟨q, rfl, Mid.ofRing hb hR⟩
  case rest =>
  obtain ⟨q, rfl, hm⟩ := hcut
  clear h c2 hp
  obtain ⟨wb, hwb⟩ : ∃ wb, wb = wc := ⟨_, rfl⟩
  subst hwb
  obtain ⟨a, c, hb, hR, hk, hg⟩ := hm
  have c0 : wb.cell? ⟨g, 0, none⟩ = some (.int .i64 now) := hb.cell 0
  have c1 : wb.cell? ⟨g, 1, none⟩ = some (.int .i64 real) := hb.cell 1
  have f0 := hb.frozen 0
  have f1 := hb.frozen 1
  go_upto_region 5 with fail
  go_cut [1] (fun r wx => r = .int .i64 cl ∧ wb = wx)
  case first =>
    go_wp2_with fail
    all_goals (go_meet; exact ⟨by rw [← hcl.out]; unfold clampI; congr 1; omega, rfl⟩)
  case rest =>
    obtain ⟨rfl, rfl⟩ := hcut
    go_upto_region 6 with fail
    go_cut [1] (fun r wx => r = .int .i64 cl ∧ Mid w B g q nw rl xs b F wx)
    case first =>
      go_region
      all_goals go_wp2_with fail
      all_goals go_meet
      all_goals
        refine ⟨rfl, ?_⟩
        rw [← hnw.out, ← hrl.out]
        first
          | exact Mid.drewN (Mid.two _ _ ⟨a, c, hb, hR, hk, hg⟩ hgF).1 _
          | exact Mid.drewN (Mid.two _ _ ⟨a, c, hb, hR, hk, hg⟩ hgF).2 _
    case rest =>
      obtain ⟨rfl, hm⟩ := hcut
      obtain ⟨a1, c1', hb1, hR1, hk1, hg1⟩ := hm
      clear c0 c1 f0 f1 hb hR hk hg
      have c2 : wc.cell? ⟨g, 2, none⟩ = some (.pointer (some ⟨q, 0, none⟩)) := hb1.cell 2
      have hl8 := hR1.le
      go_upto_if 46 with (go_at_call 21; refine (RI.room_any hR1).mono ?_; rintro e w2 ⟨rfl, nn, rfl⟩)
      go_cut [1] (fun r wx => r = .int .i64 cl ∧ Mid w B g q nw rl xs1 b F wx)
      case first =>
        by_cases h8 : xs.length = 8
        · obtain ⟨x, xt, rfl⟩ : ∃ x xt, xs = x :: xt := by cases xs with | nil => simp at h8 | cons x xt => exact ⟨x, xt, rfl⟩
          have h9 := HX.out
          rw [if_pos h8] at h9
          simp only [List.drop_succ_cons, List.drop_zero] at h9
          subst h9
          have e0 : (((8 : Nat) : Int) - ((x :: xt).length : Int)) = 0 := by rw [h8]; rfl
          have H8 := Lib.hid h8
          clear h8
          go_wp2_with (go_at_call 22; refine (RI.pop_cons (hR1.drewN _)).mono ?_; rintro e w2 ⟨rfl, hr⟩; have R1 := Lib.hid hr; clear hr)
          go_meet
          exact ⟨rfl, Mid.turn (hb1.drewN _) (hR1.drewN _) (hk1.drewN _) hg1 R1.out⟩
        · have h9 := HX.out
          rw [if_neg h8] at h9
          subst h9
          have e0 : ((((8 : Nat) : Int) - (xs.length : Int)) == 0) = false := by simp; omega
          go_wp2_with fail
          go_meet
          exact ⟨rfl, a1, c1', hb1.drewN _, hR1.drewN _, hk1.drewN _, hg1⟩
      case rest =>
        obtain ⟨rfl, hm⟩ := hcut
        clear hb1 hR1 hk1 hg1 c2
        obtain ⟨a1, c1', hb1, hR1, hk1, hg1⟩ := hm
        rename_i w9 wc
        have c2 : wc.cell? ⟨g, 2, none⟩ = some (.pointer (some ⟨q, 0, none⟩)) := hb1.cell 2
        have hb2 := hb1.alloc (.cells #[.int .i64 cl] 3)
        have hR2 := hR1.alloc (.cells #[.int .i64 cl] 3)
        have hk2 := hk1.alloc (.cells #[.int .i64 cl] 3)
        go_wp2_with fail
        refine (RI.push_any hR2 (some ⟨wc.heap.size, 0, none⟩) 1 1 (by decide) (by omega) [cl] (Lies.of_blk (cs := #[.int .i64 cl]) (Blk.new _ _ _))).mono ?_
        rintro e w2 ⟨rfl, hr⟩
        rw [show min 1 (8 - xs1.length) = 1 by omega] at hr ⊢
        have hm2 : Mid w B g q nw rl (xs1 ++ [cl]) b F w2 := Mid.turn hb2 hR2 hk2 hg1 hr
        clear hb1 hR1 hk1 hg1 c2 hb2 hR2 hk2 hr
        obtain ⟨a1, c1', hb1, hR1, hk1, hg1⟩ := hm2
        have c2 : w2.cell? ⟨g, 2, none⟩ = some (.pointer (some ⟨q, 0, none⟩)) := hb1.cell 2
        have hl8 := hR1.le
        go_wp2_with fail
        refine (RI.list_any hR1).mono ?_
        rintro e w3 ⟨a3, c3, rfl, ho3, hk3⟩
        have hb3 := hb1.keeps hk3 (fun h => h)
        have hR3 := hR1.keeps hk3 (fun _ _ h => h)
        have hk4 : Keeps F w w3 := hk1.trans hk3 (fun _ _ h => h.elim)
        have HO := Lib.hid ho3
        clear hb1 hR1 hk1 hk3 ho3 c2
        obtain ⟨N, hN⟩ : ∃ N, (xs1 ++ [cl]).length = N := ⟨_, rfl⟩
        obtain ⟨zs, hzs⟩ : ∃ zs, xs1 ++ [cl] = zs := ⟨_, rfl⟩
        rw [hzs] at hN hR3 hsm HB hl8 HO ⊢
        have HZ := Lib.hid hzs
        clear hzs
        rw [hN] at hl8 HO ⊢
        have HN := Lib.hid hN
        clear hN
        go_wp2_with fail
        go_loop [5, 65] (fun s i => ∃ k : Nat, k ≤ N ∧ i = .int .i64 (k : Int) ∧ s = .int .i64 (zs.take k).sum) (fun _ i => N - (intOf i).toNat)
        case atStart => exact ⟨0, Nat.zero_le _, rfl, rfl⟩
        case round =>
          obtain ⟨k, hk, rfl, rfl⟩ := hrel
          have hs1 := (hsm.take k).sum
          have hs2 : (zs.take k).length ≤ k := List.length_take_le _ _
          by_cases hkn : k < N
          · obtain ⟨b3, x, rfl, hx, hcell, _⟩ := ownCell HO.out hkn
            obtain ⟨z, hz, rfl⟩ : ∃ z, zs[k]? = some z ∧ RI.val z = x := by simpa using hx
            have hzb := hsm z (List.mem_of_getElem? hz)
            have hsn := sum_snoc_ zs k z hz
            have HS := Lib.hid hsn
            clear hx hz hsn
            go_wp2_with fail
            go_round
            case rel => exact ⟨k + 1, by omega, by go_num, by rw [HS.out]⟩
            case measure => simp [intOf]; omega
          · obtain rfl : k = N := by omega
            have e1 : zs.take k = zs := List.take_of_length_le (by have := HN.out; omega)
            rw [e1] at hs1 ⊢
            obtain ⟨S, hS⟩ : ∃ S, zs.sum = S := ⟨_, rfl⟩
            rw [hS] at hs1 ⊢
            have hbad : badW zs = (decide (k = 8) && (decide (S < 7) || decide (9 < S))) := by unfold badW; rw [hS, HN.out]
            have HB2 : Hid ((b || (decide (k = 8) && (decide (S < 7) || decide (9 < S)))) = bb) := Lib.hid (by rw [← hbad]; exact HB.out)
            clear e1 hS hbad
            have hm3 : Hid (Mid w B g q nw rl zs b F w3) := Lib.hid ⟨a1, c1', hb3, hR3, hk4, hg1⟩
            have c0 : w3.cell? ⟨g, 0, none⟩ = some (.int .i64 nw) := hb3.cell 0
            have c2 : w3.cell? ⟨g, 2, none⟩ = some (.pointer (some ⟨q, 0, none⟩)) := hb3.cell 2
            have c3 : w3.cell? ⟨g, 3, none⟩ = some (.bool b) := hb3.cell 3
            have f3 := hb3.frozen 3
            have hlk : (zs.length : Int) = (k : Int) := by rw [HN.out]
            have HLK := Lib.hid hlk
            clear hlk
            by_cases h8 : k = 8
            · subst h8
              have fin : Hid (Mid w B g q nw rl zs true F (w3.setCell ⟨g, 3, none⟩ (.bool true))) := Lib.hid (hm3.out.broke hFl hgF)
              by_cases g2 : S < 7
              · go_wp2_with (go_at_call 25; refine (RI.len_is hR3 8 HLK.out).mono ?_; rintro e w' ⟨rfl, rfl⟩)
                go_ret
                have h9 := HB2.out
                simp [g2] at h9
                subst h9
                exact ⟨rfl, by rw [HZ.out]; exact fin.out.out hB hsm⟩
              · by_cases g3 : 9 < S
                · go_wp2_with (go_at_call 25; refine (RI.len_is hR3 8 HLK.out).mono ?_; rintro e w' ⟨rfl, rfl⟩)
                  go_ret
                  have h9 := HB2.out
                  simp [g3] at h9
                  subst h9
                  exact ⟨rfl, by rw [HZ.out]; exact fin.out.out hB hsm⟩
                · go_wp2_with (go_at_call 25; refine (RI.len_is hR3 8 HLK.out).mono ?_; rintro e w' ⟨rfl, rfl⟩)
                  go_ret
                  have h9 := HB2.out
                  have d1 : decide (S < 7) = false := decide_eq_false (by omega)
                  have d2 : decide (9 < S) = false := decide_eq_false (by omega)
                  rw [d1, d2] at h9
                  simp at h9
                  subst h9
                  exact ⟨rfl, by rw [HZ.out]; exact hm3.out.out hB hsm⟩
            · have g1 : ((k : Int) == 8) = false := by simp; omega
              go_wp2_with (go_at_call 25; refine (RI.len_is hR3 (k : Int) HLK.out).mono ?_; rintro e w' ⟨rfl, rfl⟩)
              go_ret
              have h9 := HB2.out
              simp [h8] at h9
              subst h9
              exact ⟨rfl, by rw [HZ.out]; exact hm3.out.out hB hsm⟩

theorem step_any {w : World} {B g : Nat} {now real : Int} {xs : List Int} {b : Bool} {F : Nat → Prop} (h : ClockIs w B g now real xs b F) (h0 : 0 ≤ now) (h1 : now ≤ 100000) (h2 : 0 ≤ real) (h3 : real ≤ 100000) (n : Int) :
    Calls Try.prog 12 #[.pointer (some ⟨g, 0, none⟩), .int .i64 n] w fun e w' => e = .returned (.int .i64 (now + clampI n)) ∧
      StepOut w B g (now + clampI n) (real + 1) (nextW xs (clampI n)) (b || badW (nextW xs (clampI n))) F w' := by
  have hl : xs.length ≤ 8 := by
    obtain ⟨_, _, ⟨rfl, _, _⟩ | ⟨q, a, c, _, hR, _⟩⟩ := h
    · simp
    · exact hR.le
  exact step_mid h h0 h1 h2 h3 n _ _ _ (if xs.length = 8 then xs.drop 1 else xs) _ (Lib.hid rfl) (clamp_b n).1 (clamp_b n).2 (Lib.hid rfl) (Lib.hid rfl) (Lib.hid rfl) (h.2.1.next n) (by split <;> (try simp only [List.length_drop]) <;> omega) (Lib.hid rfl)
end Go.Proofs.Ytepemmommldbeaa.CL
