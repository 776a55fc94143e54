/- The document's clock (commonsref14): its step. No condition. -/
import Derived.Test.YtepemmommldbeaaHist
import Derived.Test.YtepemmommldbeaaAppend
namespace Go.Proofs.Ytepemmommldbeaa.RC
open Go.RowKit CL
set_option linter.unusedVariables false

abbrev TR : TypeId := 28
/-- Block r is the document's clock, behind the steps hs. F: its blocks. -/
def RefIs (w : World) (B r : Nat) (now : Int) (hs : List Int) (kept : Bool) (F : Nat → Prop) : Prop :=
  B ≤ r ∧ ∃ a c, Blk w r TR #[.int .i64 now, .slice a hs.length c, .bool kept] ∧ w.ownsRow B 3 1 (.slice a hs.length c) hs.length (hs.map RI.val) ∧ F = fun k => k = r ∨ (Value.slice a 0 0).ownBlock = some k
section
variable {w w' : World} {B r : Nat} {now : Int} {hs : List Int} {kept : Bool} {F : Nat → Prop}
theorem RefIs.ge (h : RefIs w B r now hs kept F) : ∀ k, F k → B ≤ k := by
  obtain ⟨hB, a, c, hb, ho, rfl⟩ := h
  rintro k (rfl | hk)
  · exact hB
  · exact (ho.lt k ((own_blk _ _ _).trans hk)).1
theorem RefIs.lt (h : RefIs w B r now hs kept F) : ∀ k, F k → k < w.heap.size := by
  obtain ⟨hB, a, c, hb, ho, rfl⟩ := h
  rintro k (rfl | hk)
  · exact hb.lt
  · exact (ho.lt k ((own_blk _ _ _).trans hk)).2
theorem RefIs.keeps {S : Nat → Prop} (h : RefIs w B r now hs kept F) (hk : Keeps S w w') (hn : Apart F S) : RefIs w' B r now hs kept F := by
  obtain ⟨hB, a, c, hb, ho, rfl⟩ := h
  exact ⟨hB, a, c, hb.keeps hk (fun hs => hn r (.inl rfl) hs), own_keeps ho hk (fun k h1 h2 => hn k (.inr ((own_blk _ _ _).symm.trans h1)) h2), rfl⟩
theorem RefIs.cells (h : RefIs w B r now hs kept F) : w.cell? ⟨r, 0, none⟩ = some (.int .i64 now) ∧ w.cell? ⟨r, 2, none⟩ = some (.bool kept) := by
  obtain ⟨hB, a, c, hb, ho, rfl⟩ := h
  exact ⟨hb.cell 0, hb.cell 2⟩
end
def RefOut (w : World) (B r : Nat) (now : Int) (hs : List Int) (kept : Bool) (F : Nat → Prop) (w' : World) : Prop := ∃ F', RefIs w' B r now hs kept F' ∧ Keeps F w w' ∧ Grows w F F'

/-- Behind the copy of the steps. -/
structure First (wc w1 : World) (B r : Nat) (a1 : Option Addr) (cp1 : Nat) (hs : List Int) (nw : Int) (a : Option Addr) (c : Nat) (kept : Bool) : Prop where
  blk : Blk w1 r TR #[.int .i64 nw, .slice a hs.length c, .bool kept]
  row : w1.ownsRow B 3 1 (.slice a1 hs.length cp1) hs.length (hs.map RI.val)
  keeps : Keeps (fun _ => False) wc w1
  fresh : ∀ k, (Value.slice a1 0 0).ownBlock = some k → wc.heap.size ≤ k
theorem First.mk_ {wc w1 : World} {B r : Nat} {a1 : Option Addr} {cp1 : Nat} {hs : List Int} {nw : Int} {a : Option Addr} {c : Nat} {kept : Bool} (hb : Blk wc r TR #[.int .i64 nw, .slice a hs.length c, .bool kept])
    (ho : w1.ownsRow B 3 1 (.slice a1 (0 + hs.length) cp1) (0 + hs.length) ([] ++ hs.map RI.val)) (hg : wc.grownBy w1 (Value.slice none 0 0).ownBlock)
    (hat : (Value.slice a1 0 0).ownBlock = (Value.slice none 0 0).ownBlock ∨ (Value.slice a1 0 0).ownBlock = some wc.heap.size) : First wc w1 B r a1 cp1 hs nw a c kept :=
  ⟨hb.grown hg (by simp [Value.ownBlock]), by simpa using ho, (Keeps.refl _ wc).grown hg (fun k hk => by simp [Value.ownBlock] at hk), fun k hk => by
    rcases hat with h | h
    · rw [h] at hk; simp [Value.ownBlock] at hk
    · rw [h] at hk; injection hk with hk; omega⟩
theorem First.own {wc w1 : World} {B r : Nat} {a1 : Option Addr} {cp1 : Nat} {hs : List Int} {nw : Int} {a : Option Addr} {c : Nat} {kept : Bool} (h : First wc w1 B r a1 cp1 hs nw a c kept) (x : Int) :
    (w1.alloc (.cells #[.int .i64 x] 3)).ownsRow B 3 1 (.slice a1 hs.length cp1) hs.length (hs.map RI.val) :=
  own_keeps h.row ((Keeps.refl (fun _ => False) w1).alloc _) (fun _ _ h => h)
/-- Behind the new step's append: the new row lies beside the old one. -/
def Second (wc w2 : World) (B r : Nat) (a2 : Option Addr) (cp2 : Nat) (ys : List Int) (n : Nat) (nw : Int) (a : Option Addr) (c : Nat) (kept : Bool) : Prop :=
  Blk w2 r TR #[.int .i64 nw, .slice a n c, .bool kept] ∧ w2.ownsRow B 3 1 (.slice a2 ys.length cp2) ys.length (ys.map RI.val) ∧ Keeps (fun _ => False) wc w2 ∧ ∀ k, (Value.slice a2 0 0).ownBlock = some k → wc.heap.size ≤ k

theorem Second.mk_ {wc w1 w2 : World} {B r : Nat} {a1 a2 : Option Addr} {cp1 cp2 : Nat} {hs : List Int} {nw x : Int} {a : Option Addr} {c : Nat} {kept : Bool} (h : First wc w1 B r a1 cp1 hs nw a c kept) (hr : r < wc.heap.size)
    (ho : w2.ownsRow B 3 1 (.slice a2 (hs.length + 1) cp2) (hs.length + 1) (hs.map RI.val ++ [.int .i64 x])) (hg : (w1.alloc (.cells #[.int .i64 x] 3)).grownBy w2 (Value.slice a1 0 0).ownBlock)
    (hat : (Value.slice a2 0 0).ownBlock = (Value.slice a1 0 0).ownBlock ∨ (Value.slice a2 0 0).ownBlock = some (w1.alloc (.cells #[.int .i64 x] 3)).heap.size) : Second wc w2 B r a2 cp2 (hs ++ [x]) hs.length nw a c kept := by
  have hs1 := h.keeps.size
  refine ⟨(h.blk.alloc _).grown hg (fun e => absurd (h.fresh r e.symm) (by omega)), by simpa using ho, (h.keeps.alloc _).grown hg (fun k hk hl => absurd (h.fresh k hk) (by omega)), fun k hk => ?_⟩
  rcases hat with h1 | h1
  · rw [h1] at hk; exact h.fresh k hk
  · rw [h1] at hk; injection hk with hk; simp at hk; omega
theorem Second.out {w wc w2 : World} {B r : Nat} {a2 : Option Addr} {cp2 : Nat} {ys : List Int} {n : Nat} {nw : Int} {a : Option Addr} {c : Nat} {kept : Bool} {F : Nat → Prop} (h : Second wc w2 B r a2 cp2 ys n nw a c kept) (hB : B ≤ r) (hr : r < wc.heap.size)
    (hk : Keeps F w wc) (hF : F r) : RefOut w B r nw ys kept F (w2.setCell ⟨r, 1, none⟩ (.slice a2 ys.length cp2)) := by
  obtain ⟨hb, ho, hk2, hf⟩ := h
  refine ⟨_, ⟨hB, a2, cp2, hb.set_ 1 _, own_keeps ho (keep1 w2 r 1 _) (fun k h1 h2 => ?_), rfl⟩, (hk.trans hk2 (fun _ _ h => h.elim)).trans (keep1 w2 r 1 _) (fun k _ h => by rw [show k = r from h]; exact hF), fun k hk' => ?_⟩
  · have := hf k ((own_blk _ _ _).symm.trans h1)
    rw [show k = r from h2] at this
    omega
  · rcases hk' with rfl | h1
    · exact .inl hF
    · exact .inr (Nat.le_trans hk.size (hf k h1))

theorem RefOut.kept {w wc : World} {B r : Nat} {now : Int} {hs : List Int} {kept : Bool} {F : Nat → Prop} (h : RefOut w B r now hs kept F wc) (hF : F r) (b : Bool) : RefOut w B r now hs b F (wc.setCell ⟨r, 2, none⟩ (.bool b)) := by
  obtain ⟨F2, ⟨hB, a, c, hb, ho, rfl⟩, hk, hg⟩ := h
  exact ⟨_, ⟨hB, a, c, hb.set_ 2 _, own_keeps ho (keep1 wc r 2 _) (fun k h1 h2 => own_ne ho hb (by decide) (by rw [h1, show k = r from h2])), rfl⟩, hk.trans (keep1 wc r 2 _) (fun k _ h => by rw [show k = r from h]; exact hF), hg⟩

theorem infoE : (Try.prog.info? 3).map (fun i => (i.zero, i.size, i.bytes)) = some (some (.int .i64 0), 1, 8) := by kernel_rfl

set_option maxHeartbeats 1600000 in
set_option maxRecDepth 100000 in
theorem step_mid {w : World} {B r : Nat} {now : Int} {hs : List Int} {kept : Bool} {F : Nat → Prop} (h : RefIs w B r now hs kept F) (h0 : 0 ≤ now) (h1 : now ≤ 100000) (h2 : hs.length ≤ 10000) (n cl nw : Int) (ys : List Int) (kk : Bool)
    (hcl : Hid (clampI n = cl)) (hc0 : 0 ≤ cl) (hc1 : cl ≤ 8) (hnw : Hid (now + cl = nw)) (hys : Hid (hs ++ [cl] = ys)) (hsm : Small ys) (HB : Hid ((kept && !badW (lastW ys)) = kk)) :
    Calls Try.prog 13 #[.pointer (some ⟨r, 0, none⟩), .int .i64 n] w fun e w' => e = .returned (.int .i64 nw) ∧ RefOut w B r nw ys kk F w' := by
  have hlt := h.lt
  have hge := h.ge
  obtain ⟨hB, a, c, hb, ho, hF⟩ := h
  have HF := Lib.hid hF
  have hr : F r := by rw [hF]; exact .inl rfl
  clear hF
  obtain ⟨i0, hi, hz0, hz1, hz2⟩ := info_parts infoE
  have c0 : w.cell? ⟨r, 0, none⟩ = some (.int .i64 now) := hb.cell 0
  have c1 : w.cell? ⟨r, 1, none⟩ = some (.slice a hs.length c) := hb.cell 1
  have f0 := hb.frozen 0
  have f1 := hb.frozen 1
  go_enter Try.func13, Try.ntmps13
  go_upto_region 1 with fail
  go_cut [1] (fun r wx => r = .int .i64 cl ∧ w = wx)
  case first =>
    go_wp2_with fail
    all_goals (go_meet; exact ⟨by rw [← hcl.out]; unfold clampI; congr 1; omega, rfl⟩)
  case rest =>
    obtain ⟨rfl, rfl⟩ := hcut
    go_upto_region 2 with fail
    go_cut [1] (fun x wx => x = .int .i64 cl ∧ Blk wx r TR #[.int .i64 nw, .slice a hs.length c, .bool kept] ∧ wx.ownsRow B 3 1 (.slice a hs.length c) hs.length (hs.map RI.val) ∧ Keeps F w wx)
    case first =>
      go_wp2_with fail
      go_meet
      rw [← hnw.out]
      exact ⟨rfl, hb.set_ 0 _, own_keeps ho (keep1 w r 0 _) (fun k h1 h2 => own_ne ho hb (by decide) (by rw [h1, show k = r from h2])), (keep1 w r 0 _).mono (fun k _ hk => by rw [show k = r from hk]; exact hr)⟩
    case rest =>
      obtain ⟨rfl, hb1, ho1, hk1⟩ := hcut
      clear hb ho c0 c1 f0 f1
      have c1 : wc.cell? ⟨r, 1, none⟩ = some (.slice a hs.length c) := hb1.cell 1
      have hL := Lies.of_own ho1
      have hBw : B ≤ wc.heap.size := by have := hb1.lt; omega
      go_upto_region 3 with fail
      go_cut [1] (fun x wx => x = .int .i64 cl ∧ RefOut w B r nw ys kept F wx)
      case first =>
        go_wp2_with (first
          | (at_builtin; refine wpList_append_lie _ rfl _ _ 22 rfl B 3 i0 _ 1 8 Try.underlying22 hi hz0 hz1 hz2 rfl (by decide) none 0 0 [] rfl (World.ownsRow_nil _ _ _ _) a hs.length c (hs.map RI.val) rfl hL (RI.one_val hs) (by unfold maxLen; omega) (by omega) (by omega) ?_; intro a1 cp1 w1 hown1 hg1 hat1
             have m1 : Hid (First wc w1 B r a1 cp1 hs nw a c kept) := Lib.hid (First.mk_ hb1 hown1 hg1 hat1)
             have ho2 := m1.out.own cl
             have hBw1 : B ≤ (w1.alloc (.cells #[.int .i64 cl] 3)).heap.size := by have := hg1.size; simp; omega
             clear hown1 hg1 hat1 hL c1)
          | (at_builtin; refine wpList_append_lie _ rfl _ _ 22 rfl B 3 i0 _ 1 8 Try.underlying22 hi hz0 hz1 hz2 rfl (by decide) a1 hs.length cp1 (hs.map RI.val) rfl ho2 (some ⟨w1.heap.size, 0, none⟩) 1 1 [.int .i64 cl] rfl (Lies.of_blk (cs := #[.int .i64 cl]) (Blk.new _ _ _)) (by simp [Value.oneCell']) (by unfold maxLen; omega) (by omega) hBw1 ?_; intro a2 cp2 w2 hown2 hg2 hat2
             have m2 : Hid (Second wc w2 B r a2 cp2 ys hs.length nw a c kept) := Lib.hid (by rw [← hys.out]; exact Second.mk_ m1.out hb1.lt hown2 hg2 hat2)
             have c2 : w2.cell? ⟨r, 1, none⟩ = some (.slice a hs.length c) := m2.out.1.cell 1
             have f2 := m2.out.1.frozen 1
             clear hown2 hg2 hat2 ho2))
        go_meet
        refine ⟨rfl, ?_⟩
        have := m2.out.out hB hb1.lt hk1 hr
        have hl : ys.length = hs.length + 1 := by rw [← hys.out]; simp
        rw [hl] at this
        exact this
      case rest =>
        obtain ⟨rfl, hm⟩ := hcut
        clear hb1 ho1 hk1 c1 hL hBw
        have HM := Lib.hid hm
        obtain ⟨F2, ⟨_, a2, cp2, hb2, ho2, _⟩, _, _⟩ := hm
        have hl : ys.length = hs.length + 1 := by rw [← hys.out]; simp
        obtain ⟨N, hN⟩ : ∃ N, ys.length = N := ⟨_, rfl⟩
        rw [hN] at hb2 ho2 hl
        have HN := Lib.hid hN
        have hN1 : N ≤ 10001 := by omega
        clear hN hl
        have HO := Lib.hid ho2
        have c0 : wc.cell? ⟨r, 0, none⟩ = some (.int .i64 nw) := hb2.cell 0
        have c1 : wc.cell? ⟨r, 1, none⟩ = some (.slice a2 N cp2) := hb2.cell 1
        have c2 : wc.cell? ⟨r, 2, none⟩ = some (.bool kept) := hb2.cell 2
        have f2 := hb2.frozen 2
        have hkk : ∀ S : Int, (lastW ys).sum = S → (kept && !(decide (8 ≤ N) && (decide (S < 7) || decide (9 < S)))) = kk := by
          intro S hS
          rw [← HB.out]
          unfold badW
          rw [lastW_len, hS, HN.out]
          congr 4
          simp; omega
        have HK := Lib.hid hkk
        clear ho2 hkk
        by_cases h8 : (8 : Int) ≤ N
        · obtain ⟨m, rfl⟩ : ∃ m, N = m + 8 := ⟨N - 8, by omega⟩
          go_wp2_with fail
          go_loop [6, 7] (fun s i => ∃ j : Nat, j ≤ 8 ∧ i = .int .i64 ((m + j : Nat) : Int) ∧ s = .int .i64 ((lastW ys).take j).sum) (fun _ i => m + 8 - (intOf i).toNat)
          case atStart => exact ⟨0, by omega, by go_num, rfl⟩
          case round =>
            obtain ⟨j, hj, rfl, rfl⟩ := hrel
            have hls : Small (lastW ys) := fun x hx => hsm x (List.mem_of_mem_drop hx)
            have hs1 := (hls.take j).sum
            have hs2 : ((lastW ys).take j).length ≤ j := List.length_take_le _ _
            by_cases hj8 : j < 8
            · obtain ⟨b3, x, rfl, hx, hcell, _⟩ := ownCell HO.out (k := m + j) (by omega)
              obtain ⟨z, hz, rfl⟩ : ∃ z, ys[m + j]? = some z ∧ RI.val z = x := by simpa using hx
              have hzb := hsm z (List.mem_of_getElem? hz)
              have hsn := sum_snoc_ (lastW ys) j z (by unfold lastW; rw [List.getElem?_drop, HN.out, ← hz]; congr 1)
              have HS := Lib.hid hsn
              clear hx hz hsn
              go_wp2_with fail
              go_round
              case rel => exact ⟨j + 1, by omega, by go_num, by rw [HS.out]⟩
              case measure => simp [intOf]; omega
            · obtain rfl : j = 8 := by omega
              have e1 : (lastW ys).take 8 = lastW ys := List.take_of_length_le (by rw [lastW_len]; omega)
              rw [e1] at hs1 ⊢
              obtain ⟨S, hS⟩ : ∃ S, (lastW ys).sum = S := ⟨_, rfl⟩
              have hk9 := HK.out S hS
              rw [decide_eq_true (by omega), Bool.true_and] at hk9
              rw [hS] at hs1 ⊢
              have HK9 := Lib.hid hk9
              clear e1 hS hk9
              cases kept
              · go_wp2_with fail
                go_ret
                have h9 := HK9.out
                simp at h9
                subst h9
                exact ⟨rfl, HM.out.kept hr _⟩
              · by_cases g2 : S < 7
                · go_wp2_with fail
                  go_ret
                  have h9 := HK9.out
                  rw [decide_eq_true g2] at h9; simp at h9
                  subst h9
                  exact ⟨rfl, HM.out.kept hr _⟩
                · by_cases g3 : 9 < S
                  · go_wp2_with fail
                    go_ret
                    have h9 := HK9.out
                    rw [decide_eq_true g3] at h9; simp at h9
                    subst h9
                    exact ⟨rfl, by rw [decide_eq_false (p := S ≤ 9) (by omega)]; exact HM.out.kept hr _⟩
                  · go_wp2_with fail
                    go_ret
                    have h9 := HK9.out
                    rw [decide_eq_false (p := S < 7) (by omega), decide_eq_false (p := 9 < S) (by omega)] at h9; simp at h9
                    subst h9
                    exact ⟨rfl, HM.out.kept hr _⟩
        · go_wp2_with fail
          go_ret
          have hk9 := HK.out _ rfl
          rw [decide_eq_false (by omega)] at hk9
          simp at hk9
          subst hk9
          exact ⟨rfl, HM.out⟩

theorem step_any {w : World} {B r : Nat} {now : Int} {hs : List Int} {kept : Bool} {F : Nat → Prop} (h : RefIs w B r now hs kept F) (hsm : Small hs) (h0 : 0 ≤ now) (h1 : now ≤ 100000) (h2 : hs.length ≤ 10000) (n : Int) :
    Calls Try.prog 13 #[.pointer (some ⟨r, 0, none⟩), .int .i64 n] w fun e w' => e = .returned (.int .i64 (now + clampI n)) ∧ RefOut w B r (now + clampI n) (hs ++ [clampI n]) (kept && !badW (lastW (hs ++ [clampI n]))) F w' :=
  step_mid h h0 h1 h2 n _ _ _ _ (Lib.hid rfl) (clamp_b n).1 (clamp_b n).2 (Lib.hid rfl) (Lib.hid rfl) (fun x hx => by
    rcases List.mem_append.1 hx with h3 | h3
    · exact hsm x h3
    · obtain rfl : x = clampI n := by simpa using h3
      exact clamp_b n) (Lib.hid rfl)
end Go.Proofs.Ytepemmommldbeaa.RC
