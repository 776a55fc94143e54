/- Light of images, SameImages of two rows that read alike. No condition. -/
import Derived.Test.YtmfbggdoejcpiaaRecIn
import Derived.Laws.StructEq
import Derived.BigQuiet
import Derived.Deep.QuietTactic
namespace Go.Proofs.Ytmfbggdoejcpiaa.RC
open Go.RowKit Go.Proofs.Ytmfbggdoejcpiaa.WI Go.Proofs.Ytmfbggdoejcpiaa.SM
set_option linter.unusedVariables false
set_option linter.unusedSimpArgs false

def roomF (left sz : Int) : Int := if left < 0 ∨ left < sz then -1 else left - sz
theorem room_one (left a : Int) {W : World} {g : Nat} (h : Blk W g 3 #[.int .i64 a]) (ha : 0 ≤ a ∧ a ≤ 9223372036854775807) (h2 : -1 ≤ left) (h3 : left ≤ 1000000000) :
    Calls Try.prog 16 #[.int .i64 left, .slice (some ⟨g, 0, none⟩) 1 1] W fun e w' => e = .returned (.int .i64 (roomF left a)) ∧ W = w' := by
  have c0 : W.cell? ⟨g, 0, none⟩ = some (.int .i64 a) := h.cell 0
  clear h
  by_cases a1 : left < 0
  · have r : roomF left a = -1 := by unfold roomF; rw [if_pos (.inl a1)]
    rw [r]
    clear r
    go_enter Try.func16, Try.ntmps16
    go_wp2
    go_loop [0, 5] (fun x i => x = .int .i64 left ∧ i = .int .i64 0) (fun _ i => 2 - (intOf i).toNat)
    case atStart => exact ⟨rfl, rfl⟩
    case round =>
      obtain ⟨rfl, rfl⟩ := hrel
      go_wp2
      go_ret
      exact ⟨rfl, rfl⟩
  by_cases a2 : left < a
  · have r : roomF left a = -1 := by unfold roomF; rw [if_pos (.inr a2)]
    rw [r]
    clear r
    go_enter Try.func16, Try.ntmps16
    go_wp2
    go_loop [0, 5] (fun x i => x = .int .i64 left ∧ i = .int .i64 0) (fun _ i => 2 - (intOf i).toNat)
    case atStart => exact ⟨rfl, rfl⟩
    case round =>
      obtain ⟨rfl, rfl⟩ := hrel
      go_wp2
      go_ret
      exact ⟨rfl, rfl⟩
  have r : roomF left a = left - a := by unfold roomF; rw [if_neg (by omega)]
  rw [r]
  have e2 : IntKind.i64.wrap (left - a) = left - a := IntWalk.i64_in _ (by omega)
  clear r
  go_enter Try.func16, Try.ntmps16
  go_wp2
  go_loop [0, 5] (fun x i => (x = .int .i64 left ∧ i = .int .i64 0) ∨ (x = .int .i64 (left - a) ∧ i = .int .i64 1)) (fun _ i => 2 - (intOf i).toNat)
  case atStart => exact .inl ⟨rfl, rfl⟩
  case round =>
    rcases hrel with ⟨rfl, rfl⟩ | ⟨rfl, rfl⟩
    · go_wp2
      go_round
      case rel => exact .inr ⟨rfl, rfl⟩
      case measure => simp [intOf]
    · go_wp2
      go_ret
      exact ⟨rfl, rfl⟩
def lightR (r : Int) (xs : List Im) : Int := xs.foldl (fun r x => roomF r (x.d.size : Int)) r
theorem lightR_neg (xs : List Im) : ∀ r : Int, r < 0 → lightR r xs < 0 := by
  induction xs with
  | nil => intro r h; exact h
  | cons x xs ih => intro r h; exact ih (roomF r (x.d.size : Int)) (by unfold roomF; rw [if_pos (.inl h)]; omega)
/-- What Light tells. -/
def lightB (s r0 : Int) (xs : List Im) : Bool := decide ((xs.length : Int) ≤ s) && decide (0 ≤ lightR r0 xs)
def LightOut (b : Bool) (w : World) (e : Ending) (w' : World) : Prop := e = .returned (.bool b) ∧ Below w.heap.size w w'
set_option maxHeartbeats 4000000 in
theorem light_any (s r0 : Int) (hr : 0 ≤ r0 ∧ r0 ≤ 100000) (w : World) (A : Option Addr) (n c : Nat) (xs : List Im) (h : Ims w A n c xs) :
    Calls Try.prog 7 #[.int .i64 s, .int .i64 r0, .slice A n c] w (LightOut (lightB s r0 xs) w) := by
  have hlc := h.1
  have hcm := h.2.1
  unfold maxLen at hcm
  by_cases hs : s < (n : Int)
  · have n1 : decide (s < (n : Int)) = true := by simpa using hs
    have hL : lightB s r0 xs = false := by unfold lightB; rw [h.2.2.1, decide_eq_false (by omega)]; rfl
    rw [hL]
    clear h
    go_enter Try.func7, Try.ntmps7
    go_wp2_with fail
    exact end_ret (t := 6) (v := .bool false) (by kernel_rfl) rfl rfl ⟨rfl, belowSame _⟩
  have n1 : decide (s < (n : Int)) = false := by simpa using hs
  have HX := Lib.hid h
  have hL : lightB s r0 xs = decide (0 ≤ lightR r0 xs) := by unfold lightB; rw [h.2.2.1, decide_eq_true (by omega)]; rfl
  have HN := Lib.hid h.2.2.1
  rw [hL]
  obtain ⟨F, hF⟩ : ∃ F, lightR r0 xs = F := ⟨_, rfl⟩
  rw [hF]
  have HF : Hid (lightR r0 (xs.drop 0) = F) := Lib.hid hF
  clear h hs hL hF
  go_enter Try.func7, Try.ntmps7
  go_wp2_with fail
  go_loopw [1, 7] (fun x i wr => ∃ (k : Nat) (r : Int), k ≤ n ∧ i = .int .i64 (k : Int) ∧ x = .int .i64 r ∧ -1 ≤ r ∧ r ≤ 100000 ∧ Hid (lightR r (xs.drop k) = F) ∧ Hid (Below w.heap.size w wr)) (fun _ i _ => n - (intOf i).toNat)
  case atStart => exact ⟨0, r0, by omega, rfl, rfl, by omega, by omega, HF, Lib.hid (belowSame _)⟩
  case round =>
    obtain ⟨k, r, hk, rfl, rfl, hr1, hr2, HK, HB⟩ := hrel
    by_cases hlt : k < n
    · by_cases hneg : r < 0
      · have n2 : decide ((0 : Int) ≤ r) = false := by simp; omega
        have hF : decide (0 ≤ F) = false := by have := lightR_neg (xs.drop k) r hneg; rw [HK.out] at this; simp; omega
        clear hneg
        go_wp2_with fail
        rw [hF]
        exact end_ret (t := 6) (v := .bool false) (by kernel_rfl) rfl rfl ⟨rfl, HB.out⟩
      · have n2 : decide ((0 : Int) ≤ r) = true := by simp; omega
        obtain ⟨b, off, x, rfl, hx, hok, hbl, hkc, c0, c1, c2⟩ := (HX.out.old HB.out).at_ hlt
        have hd := hok.d
        have kr := fun (W : World) (g : Nat) (hB : Blk W g 3 #[.int .i64 (x.d.size : Int)]) => room_one r (x.d.size : Int) hB (by omega) (by omega) (by omega)
        have e1 : IntKind.i64.wrap ((k : Int) + 1) = (k : Int) + 1 := IntWalk.i64_in _ (by omega)
        have hrr : -1 ≤ roomF r (x.d.size : Int) ∧ roomF r (x.d.size : Int) ≤ 100000 := by unfold roomF; split <;> omega
        obtain ⟨R, hR⟩ : ∃ R, roomF r (x.d.size : Int) = R := ⟨_, rfl⟩
        have HK2 : Hid (lightR R (xs.drop (k + 1)) = F) := Lib.hid (by
          have h1 := HK.out
          have hxl : k < xs.length := by have := HN.out; omega
          rw [List.drop_eq_getElem_cons hxl] at h1
          have hxe : xs[k] = x := Option.some.inj ((List.getElem?_eq_getElem hxl).symm.trans hx)
          rw [hxe] at h1
          rw [← hR]
          exact h1)
        rw [hR] at kr hrr
        clear hx hok hR hneg c0 c1
        go_wp2_with (go_at_call 16; refine (kr _ _ (Blk.new _ _ _)).mono ?_; rintro e w5 ⟨rfl, rfl⟩)
        go_roundw
        case rel => exact ⟨k + 1, R, by omega, by go_num, rfl, hrr.1, hrr.2, HK2, Lib.hid (belowNew HB.out _)⟩
        case measure => simp [intOf]; omega
    · obtain rfl : k = n := by omega
      by_cases hneg : r < 0
      · have n2 : decide ((0 : Int) ≤ r) = false := by simp; omega
        have hF : decide (0 ≤ F) = false := by have := lightR_neg (xs.drop k) r hneg; rw [HK.out] at this; simp; omega
        clear hneg
        go_wp2_with fail
        rw [hF]
        exact end_ret (t := 6) (v := .bool false) (by kernel_rfl) rfl rfl ⟨rfl, HB.out⟩
      · have n2 : decide ((0 : Int) ≤ r) = true := by simp; omega
        have hF : decide (0 ≤ F) = true := by
          have := HK.out
          rw [List.drop_eq_nil_of_le (by have := HN.out; omega)] at this
          have h2 : r = F := this
          simp; omega
        clear hneg
        go_wp2_with fail
        rw [hF]
        exact end_ret (t := 6) (v := .bool true) (by kernel_rfl) rfl rfl ⟨rfl, HB.out⟩
set_option maxHeartbeats 4000000 in
theorem same_images (w : World) (A B : Option Addr) (n c d : Nat) (xs : List Im) (h : Ims w A n c xs) (h' : Ims w B n d xs) :
    Calls Try.prog 12 #[.slice A n c, .slice B n d] w fun e w' => e = .returned (.bool true) ∧ Below w.heap.size w w' := by
  have hlc := h.1
  have hcm := h.2.1
  have hln := h.2.2.1
  unfold maxLen at hcm
  have nn : ((n : Int) == (n : Int)) = true := by simp
  have HX := Lib.hid h
  have HY := Lib.hid h'
  clear h h'
  go_enter Try.func12, Try.ntmps12
  go_wp2_with fail
  go_loopw [5] (fun i wr => ∃ k : Nat, k ≤ n ∧ i = .int .i64 (k : Int) ∧ Hid (Below w.heap.size w wr)) (fun i _ => n - (intOf i).toNat)
  case atStart => exact ⟨0, by omega, rfl, Lib.hid (belowSame _)⟩
  case round =>
    obtain ⟨k, hk, rfl, HB⟩ := hrel
    by_cases hlt : k < n
    · obtain ⟨b, off, x, rfl, hx, hok, hbl, hkc, c0, c1, c2⟩ := (HX.out.old HB.out).at_ hlt
      obtain ⟨b', off', x', rfl, hx', hok', hbl', hkc', c0', c1', c2'⟩ := (HY.out.old HB.out).at_ hlt
      obtain rfl : x = x' := Option.some.inj (hx.symm.trans hx')
      have e1 : IntKind.i64.wrap ((k : Int) + 1) = (k : Int) + 1 := IntWalk.i64_in _ (by omega)
      have q0 : (x.b == x.b) = true := by simp
      have q1 : (x.v == x.v) = true := by simp
      have q2 : (x.d.toList == x.d.toList) = true := by simp
      clear hx hx' hok hok'
      go_upto_region 6 with fail
      go_quiet (fail)
      all_goals
        go_wp2_with fail
        go_roundw
        case rel => exact ⟨k + 1, by omega, by go_num, Lib.hid ⟨HB.out.os, HB.out.tape, HB.out.output, HB.out.size, HB.out.block⟩⟩
        case measure => simp [intOf]; omega
    · obtain rfl : k = n := by omega
      go_wp2_with fail
      exact end_ret (t := 4) (v := .bool true) (by kernel_rfl) rfl rfl ⟨rfl, HB.out⟩
end Go.Proofs.Ytmfbggdoejcpiaa.RC
