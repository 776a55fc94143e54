/- rec: Sectors, Most, PutHead, label. No condition. -/
import Derived.Test.YtmfbggdoejcpiaaReader
import Derived.Test.YtmfbggdoejcpiaaStampSum
import Derived.Deep.RegionHeld3
namespace Go.Proofs.Ytmfbggdoejcpiaa.RC
open Go.RowKit Go.Proofs.Ytmfbggdoejcpiaa.WI Go.Proofs.Ytmfbggdoejcpiaa.SM
set_option linter.unusedVariables false
set_option linter.unusedSimpArgs false

def secsI (n : Int) : Int := if n < 1 ∨ 60 < n then 0 else (108 * n + 41) / 42
theorem sectors_any (n : Int) (w : World) : Calls Try.prog 11 #[.int .i64 n] w fun e w' => e = .returned (.int .i64 (secsI n)) ∧ w' = w := by
  unfold secsI
  by_cases h1 : n < 1
  · rw [if_pos (.inl h1)]
    go_enter Try.func11, Try.ntmps11
    go_wp2
    go_ret
    exact ⟨rfl, rfl⟩
  · by_cases h2 : 60 < n
    · rw [if_pos (.inr h2)]
      go_enter Try.func11, Try.ntmps11
      go_wp2
      go_ret
      exact ⟨rfl, rfl⟩
    · rw [if_neg (by omega)]
      have e1 : IntKind.i64.wrap (108 * n) = 108 * n := IntWalk.i64_in _ (by omega)
      have e2 : IntKind.i64.wrap (108 * n + 42) = 108 * n + 42 := IntWalk.i64_in _ (by omega)
      have e3 : IntKind.i64.wrap (108 * n + 42 - 1) = 108 * n + 41 := by rw [IntWalk.i64_in _ (by omega)]; omega
      have e4 : (108 * n + 41).tdiv 42 = (108 * n + 41) / 42 := Int.tdiv_eq_ediv_of_nonneg (by omega)
      obtain ⟨q, hq⟩ : ∃ q, (108 * n + 41) / 42 = q := ⟨_, rfl⟩
      have e5 : 0 ≤ q ∧ q ≤ 200 := by omega
      have e6 : IntKind.i64.wrap q = q := IntWalk.i64_in _ (by omega)
      rw [hq] at e4 ⊢
      have HQ := Lib.hid hq
      clear hq
      go_enter Try.func11, Try.ntmps11
      go_wp2
      go_ret
      exact ⟨rfl, rfl⟩
/-- The bytes of a head, ahead of its stamp. -/
def headB (e l a : Int) : ByteArray := ⟨#[72, 69, 65, 68]⟩ ++ strOfNums (([] ++ lowB e 8) ++ lowB l 8 ++ lowB a 4)
def headT (e l a : Int) : ByteArray := stampT (headB e l a) 64
theorem headB_size (e l a : Int) : (headB e l a).size = 24 := by
  unfold headB
  rw [ByteArray.size_append, strOf_size]
  simp [lowB_len]
  rfl
set_option maxHeartbeats 4000000 in
theorem put_head (e l a : Int) (he : 0 < e ∧ e ≤ 18446744073709551615) (hl : 0 < l ∧ l ≤ 18446744073709551615) (ha : 0 ≤ a ∧ a ≤ 256) (w : World) :
    Calls Try.prog 14 #[.agg #[.int .u64 e, .int .u64 l, .int .i64 a]] w fun x w' => x = .returned (.tuple #[.string (headT e l a), .int .i64 0]) ∧ Below w.heap.size w w' := by
  have n1 : (e == 0) = false := by simp; omega
  have n2 : (l == 0) = false := by simp; omega
  have n3 : decide (a < 0) = false := by simp; omega
  have n4 : decide (256 < a) = false := by simp; omega
  have wa : IntKind.u64.wrap a = a := IntWalk.u64_in _ (by omega)
  have ks := fun W => stamp_ok (headB e l a) 64 (by omega) (by omega) (by rw [headB_size]; omega) W
  have hx : headT e l a = stampT (headB e l a) 64 := rfl
  rw [hx]
  obtain ⟨T, hT⟩ : ∃ T, stampT (headB e l a) 64 = T := ⟨_, rfl⟩
  rw [hT] at ks ⊢
  have hsz := headB_size e l a
  obtain ⟨U, hU⟩ : ∃ U, strOfNums (([] ++ lowB e 8) ++ lowB l 8 ++ lowB a 4) = U := ⟨_, rfl⟩
  have hB : headB e l a = ⟨#[72, 69, 65, 68]⟩ ++ U := by rw [← hU]; rfl
  rw [hB] at ks hsz
  have HU := Lib.hid hU
  have hz1 : U.size = 20 := by rw [ByteArray.size_append] at hsz; have : (⟨#[72, 69, 65, 68]⟩ : ByteArray).size = 4 := rfl; omega
  have hz2 : ¬ 9223372036854775807 < (⟨#[72, 69, 65, 68]⟩ : ByteArray).size + U.size := by have : (⟨#[72, 69, 65, 68]⟩ : ByteArray).size = 4 := rfl; omega
  have hz3 : ¬ 9223372036854775807 < 4 + U.size := by omega
  have HE := Lib.hid he
  have HL := Lib.hid hl
  have HA := Lib.hid ha
  clear hT hU hx hB hsz he hl ha
  go_enter Try.func14, Try.ntmps14
  go_upto_region 4 with fail
  have hW := wr_new (w.alloc (.cells #[.int .u64 e, .int .u64 l, .int .i64 a] 39))
  have hb1 := Blk.new w 39 #[.int .u64 e, .int .u64 l, .int .i64 a]
  have hsz1 : (w.alloc (.cells #[.int .u64 e, .int .u64 l, .int .i64 a] 39)).heap.size = w.heap.size + 1 := by simp
  have hbl : Below w.heap.size w (w.alloc (.cells #[.int .u64 e, .int .u64 l, .int .i64 a] 39)) := (Below.refl _ w).alloc (Nat.le_refl _) _
  rw [hsz1] at hW
  obtain ⟨W1, hW1⟩ : ∃ W1, w.alloc (.cells #[.int .u64 e, .int .u64 l, .int .i64 a] 39) = W1 := ⟨_, rfl⟩
  rw [hW1] at hW hb1 hbl ⊢
  obtain ⟨W2, hW2⟩ : ∃ W2, W1.alloc (.cells #[.slice none 0 0, .int .i64 0] 57) = W2 := ⟨_, rfl⟩
  rw [hW2] at hW ⊢
  obtain ⟨g, hg⟩ : ∃ g, w.heap.size + 1 = g := ⟨_, rfl⟩
  rw [hg] at hW ⊢
  obtain ⟨x0, hx0⟩ : ∃ x, w.heap.size = x := ⟨_, rfl⟩
  rw [hx0] at hb1 hg ⊢
  have hxg : x0 < g := by omega
  have C0 : Hid (W1.cell? ⟨x0, 0, none⟩ = some (.int .u64 e)) := Lib.hid (hb1.cell 0)
  have C1 : Hid (W1.cell? ⟨x0, 1, none⟩ = some (.int .u64 l)) := Lib.hid (hb1.cell 1)
  have C2 : Hid (W1.cell? ⟨x0, 2, none⟩ = some (.int .i64 a)) := Lib.hid (hb1.cell 2)
  have t0 := hW.cell hxg C0.out
  have t1 := hW.cell hxg C1.out
  have t2 := hW.cell hxg C2.out
  have k1 := num_8 hW.drew (by simp) e (by have := HE.out; omega) HE.out.2
  have HBL := Lib.hid hbl
  have HG : Hid (w.heap.size ≤ g) := Lib.hid (by omega)
  clear hW hb1 hsz1 hbl hW1 hW2 hg hx0
  go_region_held3 (fun W => W.cell? ⟨x0, 0, none⟩ = some (.int .u64 e) ∧ W.cell? ⟨x0, 1, none⟩ = some (.int .u64 l) ∧ W.cell? ⟨x0, 2, none⟩ = some (.int .i64 a)) (go_keep) (first
    | (go_at_call 25; (with_reducible refine k1.mono ?_); rintro x w3 ⟨rfl, h3⟩; have s0 := h3.cell hxg C0.out; have s1 := h3.cell hxg C1.out; have s2 := h3.cell hxg C2.out; have k2 := num_8 h3 (by simp [lowB_len]) l (by have := HL.out; omega) HL.out.2; clear k1 h3)
    | (go_at_call 25; (with_reducible refine k2.mono ?_); rintro x w4 ⟨rfl, h4⟩; have s0 := h4.cell hxg C0.out; have s1 := h4.cell hxg C1.out; have s2 := h4.cell hxg C2.out; have k3 := num_4 h4 (by simp [lowB_len]) a HA.out.1 (by have := HA.out; omega); clear k2 h4)
    | (go_at_call 25; (with_reducible refine k3.mono ?_); rintro x w5 ⟨rfl, h5⟩; have s0 := h5.cell hxg C0.out; have s1 := h5.cell hxg C1.out; have s2 := h5.cell hxg C2.out; have k4 := bytes_any h5 (by simp [lowB_len]); rw [HU.out] at k4; have H5 := Lib.hid h5.bel; clear k3 h5)
    | (go_at_call 26; (with_reducible refine k4.mono ?_); rintro x w6 ⟨rfl, rfl⟩; clear k4))
  go_wp2_with (go_at_call 20; refine (ks _).mono ?_; rintro x w7 ⟨rfl, h7⟩; have H7 := Lib.hid h7; clear h7)
  go_ret2
  have hA := HBL.out.trans (H5.out.mono HG.out)
  exact ⟨rfl, hA.trans (H7.out.mono hA.size)⟩
/-- What a sector says of itself. -/
def labelT (e l p n : Int) : ByteArray := strOfNums ((([] ++ lowB e 8) ++ lowB l 8 ++ lowB p 1) ++ lowB n 1)
theorem labelT_size (e l p n : Int) : (labelT e l p n).size = 18 := by
  unfold labelT
  rw [strOf_size]
  simp [lowB_len]
set_option maxHeartbeats 4000000 in
theorem label_any (e l p n : Int) (A : Option Addr) (m c : Nat) (he : 0 ≤ e ∧ e ≤ 18446744073709551615) (hl : 0 ≤ l ∧ l ≤ 18446744073709551615) (hp : 0 ≤ p ∧ p ≤ 255) (hn : 0 ≤ n ∧ n ≤ 255) (w : World) :
    Calls Try.prog 21 #[.agg #[.int .u64 e, .int .u64 l, .slice A m c], .int .i64 p, .int .i64 n] w fun x w' => x = .returned (.string (labelT e l p n)) ∧ Below w.heap.size w w' := by
  have wp : IntKind.u64.wrap p = p := IntWalk.u64_in _ (by omega)
  have wn : IntKind.u64.wrap n = n := IntWalk.u64_in _ (by omega)
  obtain ⟨U, hU⟩ : ∃ U, labelT e l p n = U := ⟨_, rfl⟩
  have HU := Lib.hid hU
  rw [hU]
  have HE := Lib.hid he
  have HL := Lib.hid hl
  have HP := Lib.hid hp
  have HN := Lib.hid hn
  clear hU he hl hp hn
  go_enter Try.func21, Try.ntmps21
  go_upto_region 2 with fail
  have hW := wr_new (w.alloc (.cells #[.int .u64 e, .int .u64 l, .slice A m c] 25))
  have hb1 := Blk.new w 25 #[.int .u64 e, .int .u64 l, .slice A m c]
  have hsz1 : (w.alloc (.cells #[.int .u64 e, .int .u64 l, .slice A m c] 25)).heap.size = w.heap.size + 1 := by simp
  have hbl : Below w.heap.size w (w.alloc (.cells #[.int .u64 e, .int .u64 l, .slice A m c] 25)) := (Below.refl _ w).alloc (Nat.le_refl _) _
  rw [hsz1] at hW
  obtain ⟨W1, hW1⟩ : ∃ W1, w.alloc (.cells #[.int .u64 e, .int .u64 l, .slice A m c] 25) = W1 := ⟨_, rfl⟩
  rw [hW1] at hW hb1 hbl ⊢
  obtain ⟨W2, hW2⟩ : ∃ W2, W1.alloc (.cells #[.slice none 0 0, .int .i64 0] 57) = W2 := ⟨_, rfl⟩
  rw [hW2] at hW ⊢
  obtain ⟨g, hg⟩ : ∃ g, w.heap.size + 1 = g := ⟨_, rfl⟩
  rw [hg] at hW ⊢
  obtain ⟨x0, hx0⟩ : ∃ x, w.heap.size = x := ⟨_, rfl⟩
  rw [hx0] at hb1 hg ⊢
  have hxg : x0 < g := by omega
  have C0 : Hid (W1.cell? ⟨x0, 0, none⟩ = some (.int .u64 e)) := Lib.hid (hb1.cell 0)
  have C1 : Hid (W1.cell? ⟨x0, 1, none⟩ = some (.int .u64 l)) := Lib.hid (hb1.cell 1)
  have t0 := hW.cell hxg C0.out
  have t1 := hW.cell hxg C1.out
  have k1 := num_8 hW.drew (by simp) e HE.out.1 HE.out.2
  have HBL := Lib.hid hbl
  have HG : Hid (w.heap.size ≤ g) := Lib.hid (by omega)
  clear hW hb1 hsz1 hbl hW1 hW2 hg hx0
  go_region_held3 (fun W => W.cell? ⟨x0, 0, none⟩ = some (.int .u64 e) ∧ W.cell? ⟨x0, 1, none⟩ = some (.int .u64 l)) (go_keep) (first
    | (go_at_call 25; (with_reducible refine k1.mono ?_); rintro x w3 ⟨rfl, h3⟩; have s0 := h3.cell hxg C0.out; have s1 := h3.cell hxg C1.out; have k2 := num_8 h3 (by simp [lowB_len]) l HL.out.1 HL.out.2; clear k1 h3)
    | (go_at_call 25; (with_reducible refine k2.mono ?_); rintro x w4 ⟨rfl, h4⟩; have s0 := h4.cell hxg C0.out; have s1 := h4.cell hxg C1.out; have k3 := num_1 h4 (by simp [lowB_len]) p HP.out.1 HP.out.2; clear k2 h4)
    | (go_at_call 25; (with_reducible refine k3.mono ?_); rintro x w5 ⟨rfl, h5⟩; have s0 := h5.cell hxg C0.out; have s1 := h5.cell hxg C1.out; have k4 := num_1 h5 (by simp [lowB_len]) n HN.out.1 HN.out.2; clear k3 h5)
    | (go_at_call 25; (with_reducible refine k4.mono ?_); rintro x w6 ⟨rfl, h6⟩; have s0 := h6.cell hxg C0.out; have s1 := h6.cell hxg C1.out; have k5 := bytes_any h6 (by simp [lowB_len]); rw [show strOfNums _ = U from HU.out] at k5; have H6 := Lib.hid h6.bel; clear k4 h6)
    | (go_at_call 26; (with_reducible refine k5.mono ?_); rintro x w7 ⟨rfl, rfl⟩; clear k5))
  go_wp2_with fail
  go_ret
  exact ⟨rfl, HBL.out.trans (H6.out.mono HG.out)⟩
theorem put_head_bad (e l a : Int) (h : ¬ (0 < e ∧ 0 < l ∧ 0 ≤ a ∧ a ≤ 256)) (he : 0 ≤ e) (hl : 0 ≤ l) (w : World) :
    Calls Try.prog 14 #[.agg #[.int .u64 e, .int .u64 l, .int .i64 a]] w fun x w' => x = .returned (.tuple #[.string ⟨#[]⟩, .int .i64 1]) ∧ Below w.heap.size w w' := by
  by_cases h1 : 0 < e
  · have n1 : (e == 0) = false := by simp; omega
    by_cases h2 : 0 < l
    · have n2 : (l == 0) = false := by simp; omega
      by_cases h3 : 0 ≤ a
      · have n3 : decide (a < 0) = false := by simp; omega
        have n4 : decide (256 < a) = true := by simp; omega
        clear h h1 h2 h3 he hl
        go_enter Try.func14, Try.ntmps14
        go_wp2_with fail
        go_ret2
        exact ⟨rfl, (Below.refl _ w).alloc (Nat.le_refl _) _⟩
      · have n3 : decide (a < 0) = true := by simp; omega
        clear h h1 h2 h3 he hl
        go_enter Try.func14, Try.ntmps14
        go_wp2_with fail
        go_ret2
        exact ⟨rfl, (Below.refl _ w).alloc (Nat.le_refl _) _⟩
    · obtain rfl : l = 0 := by omega
      clear h h1 h2 he hl
      go_enter Try.func14, Try.ntmps14
      go_wp2_with fail
      go_ret2
      exact ⟨rfl, (Below.refl _ w).alloc (Nat.le_refl _) _⟩
  · obtain rfl : e = 0 := by omega
    clear h h1 he hl
    go_enter Try.func14, Try.ntmps14
    go_wp2_with fail
    go_ret2
    exact ⟨rfl, (Below.refl _ w).alloc (Nat.le_refl _) _⟩
end Go.Proofs.Ytmfbggdoejcpiaa.RC
