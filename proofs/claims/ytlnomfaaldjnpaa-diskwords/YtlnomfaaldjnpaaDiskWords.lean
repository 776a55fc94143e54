/- DiskWords: the walk. No condition. -/
import Derived.Test.YtlnomfaaldjnpaaDkEval
import Derived.Deep.CutBlock
import Derived.Deep.Cut
namespace Go.Proofs.Ytlnomfaaldjnpaa.diskWords
open Go.RowKit Go.Proofs.Ytlnomfaaldjnpaa.DK
set_option linter.unusedVariables false
set_option linter.unusedSimpArgs false

def wK (z : List Int) : Nat → Dk
  | 0 => newK 3
  | k + 1 => { wK z k with words := updF (wK z k).words (k : Int) (z.getD k 0), table := updF (wK z k).table (k : Int) ((k : Int) + 1), last := (k : Int) + 1 }
def wP (z : List Int) (k : Nat) : Dk := { wK z k with words := updF (wK z k).words (k : Int) (z.getD k 0) }
theorem wK_plain (z : List Int) (k : Nat) : (wK z k).on = true ∧ (wK z k).armed = false ∧ (wK z k).last = (k : Int) ∧ (wK z k).room = 3 := by
  cases k with
  | zero => exact ⟨rfl, rfl, rfl, rfl⟩
  | succ k =>
    have h : ∀ k, (wK z k).on = true ∧ (wK z k).armed = false ∧ (wK z k).room = 3 := by
      intro k
      induction k with
      | zero => exact ⟨rfl, rfl, rfl⟩
      | succ k ih => exact ih
    exact ⟨(h k).1, (h k).2.1, by show (k : Int) + 1 = _; omega, (h k).2.2⟩
theorem wK_at (z : List Int) (k i : Nat) (h : i < k) : (wK z k).words (i : Int) = z.getD i 0 ∧ (wK z k).table (i : Int) = (i : Int) + 1 := by
  induction k with
  | zero => omega
  | succ k ih =>
    show updF _ _ _ _ = _ ∧ updF _ _ _ _ = _
    by_cases e : i = k
    · subst e; rw [updF_same, updF_same]; exact ⟨rfl, rfl⟩
    · rw [updF_other _ _ (by omega), updF_other _ _ (by omega)]; exact ih (by omega)
theorem in_node {k : Nat} (h : k < 17) : inNode (k : Int) = true := by unfold inNode; simp; omega
theorem wP_eq (z : List Int) (k : Nat) (h : k < 17) : fenceE (wK z k) (k : Int) = 0 ∧ putK (wK z k) (k : Int) (z.getD k 0) = wP z k :=
  put_good (wK_plain z k).1 (in_node h) (wK_plain z k).2.1 _
theorem wS_eq (z : List Int) (k : Nat) (h : k < 17) : admitE (wP z k) (k : Int) ((k : Int) + 1) = 0 ∧ admitK (wP z k) (k : Int) ((k : Int) + 1) = wK z (k + 1) :=
  admit_good (D := wP z k) (wK_plain z k).1 (in_node h) (wK_plain z k).2.1 (by show (wK z k).last < _; rw [(wK_plain z k).2.2.1]; omega)
def wE (z : List Int) (n : Nat) (keep : List Int) : Dk := restoreK (cutK (wK z n) keep)
theorem wE_eq (z : List Int) (n : Nat) (keep : List Int) : (wE z n keep).words = (wK z n).words ∧ (wE z n keep).table = (wK z n).table ∧ (wE z n keep).last = (n : Int) := by
  obtain ⟨h1, h2, h3, h4⟩ := wK_plain z n
  unfold wE restoreK cutK
  rw [if_pos h1]
  split
  · exact ⟨rfl, rfl, h3⟩
  · exact ⟨rfl, rfl, h3⟩

set_option maxHeartbeats 4000000 in
set_option maxRecDepth 100000 in
theorem walk (a0 : Option Addr) (len0 cap0 : Nat) (z0 : List Int) (a1 : Option Addr) (len1 cap1 : Nat) (z1 : List Int) (w : World) (g0 : IsRow .u64 w a0 len0 cap0 z0) (g1 : IsRow .i64 w a1 len1 cap1 z1) :
    Calls Try.prog 4 #[.slice a0 len0 cap0, .slice a1 len1 cap1] w fun e w' => e = .returned (.bool true) ∧ Below w.heap.size w w' := by
  by_cases c0 : 17 < len0
  · have b0 : decide ((17 : Int) < (len0 : Int)) = true := by simp; omega
    clear g0 g1
    go_enter Try.func4, Try.ntmps4
    go_wp2_with (go_at_call 12; refine (alive_any _).mono ?_; rintro e w1 ⟨rfl, hb⟩)
    go_ret
    exact ⟨rfl, hb⟩
  have b0 : decide ((17 : Int) < (len0 : Int)) = false := by simp; omega
  by_cases c1 : 20 < len1
  · have b1 : decide ((20 : Int) < (len1 : Int)) = true := by simp; omega
    clear g0 g1
    go_enter Try.func4, Try.ntmps4
    go_wp2_with (go_at_call 12; refine (alive_any _).mono ?_; rintro e w1 ⟨rfl, hb⟩)
    go_ret
    exact ⟨rfl, hb⟩
  have b1 : decide ((20 : Int) < (len1 : Int)) = false := by simp; omega
  have knew := own_new w (belowSame w) 3 (by omega) (by omega)
  have kput : ∀ {g : Nat} {W : World} {k : Nat}, k < len0 → Own w g 0 (wK z0 k) W → Calls Try.prog 18 #[.pointer (some ⟨g, 0, none⟩), .int .i64 (k : Int), .int .u64 (z0.getD k 0)] W fun e' w' => e' = .returned (.int .i64 0) ∧ Own w g 0 (wP z0 k) w' := fun {g W k} hk h => by
    have := own_put h (k : Int) (z0.getD k 0) (by omega); rwa [(wP_eq z0 k (by omega)).1, (wP_eq z0 k (by omega)).2] at this
  have kadm : ∀ {g : Nat} {W : World} {k : Nat}, k < len0 → Own w g 0 (wP z0 k) W → Calls Try.prog 14 #[.pointer (some ⟨g, 0, none⟩), .int .i64 (k : Int), .int .u64 ((k : Int) + 1)] W fun e' w' => e' = .returned (.int .i64 0) ∧ Own w g 0 (wK z0 (k + 1)) w' := fun {g W k} hk h => by
    have := own_admit h (k : Int) ((k : Int) + 1) (by omega); rwa [(wS_eq z0 k (by omega)).1, (wS_eq z0 k (by omega)).2] at this
  have kcut : ∀ {g : Nat} {W : World}, Own w g 0 (wK z0 len0) W → _ := fun {g W} h => own_cut_row h g1 (by omega)
  have krst : ∀ {g : Nat} {W : World}, Own w g 0 (cutK (wK z0 len0) (z1.take len1)) W → Calls Try.prog 20 #[.pointer (some ⟨g, 0, none⟩)] W fun e' w' => e' = .returned (.tuple #[]) ∧ Own w g 0 (wE z0 len0 (z1.take len1)) w' := fun {g W} h => own_restore h
  have kword : ∀ {g : Nat} {W : World} {k : Nat} {x : Int}, k < len0 → z0.getD k 0 = x → Own w g 0 (wE z0 len0 (z1.take len1)) W → Calls Try.prog 21 #[.pointer (some ⟨g, 0, none⟩), .int .i64 (k : Int)] W fun e' w' => e' = .returned (.int .u64 x) ∧ w' = W := fun {g W k x} hk hx h => by
    have := own_word h (k : Int); unfold wordK at this; rwa [in_node (by omega), if_pos rfl, (wE_eq _ _ _).1, (wK_at z0 len0 k hk).1, hx] at this
  have kepoch : ∀ {g : Nat} {W : World} {k : Nat}, k < len0 → Own w g 0 (wE z0 len0 (z1.take len1)) W → Calls Try.prog 22 #[.pointer (some ⟨g, 0, none⟩), .int .i64 (k : Int)] W fun e' w' => e' = .returned (.int .u64 ((k : Int) + 1)) ∧ w' = W := fun {g W k} hk h => by
    have := own_epoch h (k : Int); unfold epochK at this; rwa [in_node (by omega), if_pos rfl, (wE_eq _ _ _).2.1, (wK_at z0 len0 k hk).2] at this
  have klast : ∀ {g : Nat} {W : World}, Own w g 0 (wE z0 len0 (z1.take len1)) W → Calls Try.prog 23 #[.pointer (some ⟨g, 0, none⟩)] W fun e' w' => e' = .returned (.int .u64 (len0 : Int)) ∧ w' = W := fun {g W} h => by
    have := own_last h; rwa [(wE_eq _ _ _).2.2] at this
  have hcl : ∀ k, k < len0 → ∃ b off, a0 = some ⟨b, off, none⟩ ∧ b < w.heap.size ∧ w.cell? ⟨b, off + k, none⟩ = some (.int .u64 (z0.getD k 0)) := fun k hk => by
    obtain ⟨b, off, h1, h2, h3⟩ := g0.cells (by omega)
    exact ⟨b, off, h1, h2, h3 k hk⟩
  have HCL := Lib.hid hcl
  have hwu : IntKind.u64.wrap (len0 : Int) = (len0 : Int) := IntWalk.u64_in _ (by omega)
  clear hcl g0 g1
  generalize wE z0 len0 (z1.take len1) = DE at *
  generalize cutK (wK z0 len0) (z1.take len1) = DC at *
  go_enter Try.func4, Try.ntmps4
  go_wp2_with (go_at_call 13; refine knew.mono ?_; rintro e w0 ⟨g, rfl, h0⟩; have H1 : Hid (Own w g 0 (wK z0 0) w0) := Lib.hid h0; clear h0)
  go_loopw [6] (fun i wr => ∃ k : Nat, i = .int .i64 (k : Int) ∧ k ≤ len0 ∧ Hid (Own w g 0 (wK z0 k) wr)) (fun i _ => len0 - (intOf i).toNat)
  case atStart => exact ⟨0, rfl, by omega, H1⟩
  case round =>
    clear H1
    obtain ⟨q, rfl, hq, HO⟩ := hrel
    by_cases hlt : q < len0
    · obtain ⟨b, off, rfl, hb, hc0⟩ := HCL.out q hlt
      have hc := (HO.out.bel.cell (p := ⟨b, off + q, none⟩) hb).trans hc0
      have kp := kput hlt HO.out
      have ka := fun {W : World} => kadm (g := g) (W := W) hlt
      obtain ⟨x, hx⟩ : ∃ x, z0.getD q 0 = x := ⟨_, rfl⟩
      rw [hx] at hc kp
      have e1 : IntKind.i64.wrap ((q : Int) + 1) = (q : Int) + 1 := IntWalk.i64_in _ (by omega)
      have e2 : IntKind.u64.wrap ((q : Int) + 1) = (q : Int) + 1 := IntWalk.u64_in _ (by omega)
      clear hx hc0
      go_wp2_with (first
        | (go_at_call 18; (with_reducible refine kp.mono ?_); rintro e w1 ⟨rfl, h1⟩; have H1 := Lib.hid h1; clear h1)
        | (go_at_call 14; (with_reducible refine (ka H1.out).mono ?_); rintro e w2 ⟨rfl, h2⟩; have H2 := Lib.hid h2; clear h2))
      go_roundw
      case rel => exact ⟨q + 1, by go_num, by omega, H2⟩
      case measure => simp [intOf]; omega
    · have HO2 : Hid (Own w g 0 (wK z0 len0) wr) := by rw [show len0 = q by omega]; exact HO
      clear HO
      go_wp2_with (first
        | (go_at_call 19; (with_reducible refine (kcut HO2.out).mono ?_); rintro e w1 ⟨rfl, h1⟩; have H1 := Lib.hid h1; clear h1)
        | (go_at_call 20; (with_reducible refine (krst H1.out).mono ?_); rintro e w2 ⟨rfl, h2⟩; have H2 := Lib.hid h2; clear h2))
      clear HO2 H1
      clear hlt
      go_loopw [7] (fun i wr => ∃ j : Nat, i = .int .i64 (j : Int) ∧ j ≤ len0 ∧ Hid (Own w g 0 DE wr)) (fun i _ => len0 - (intOf i).toNat)
      case atStart => exact ⟨0, rfl, by omega, H2⟩
      case round =>
        clear H2
        obtain ⟨k, rfl, hk, HO⟩ := hrel
        by_cases hlt : k < len0
        · obtain ⟨b, off, rfl, hb, hc0⟩ := HCL.out k hlt
          have hc := (HO.out.bel.cell (p := ⟨b, off + k, none⟩) hb).trans hc0
          obtain ⟨x, hx⟩ : ∃ x, z0.getD k 0 = x := ⟨_, rfl⟩
          rw [hx] at hc
          have e1 : IntKind.i64.wrap ((k : Int) + 1) = (k : Int) + 1 := IntWalk.i64_in _ (by omega)
          have e2 : IntKind.u64.wrap ((k : Int) + 1) = (k : Int) + 1 := IntWalk.u64_in _ (by omega)
          have HX := Lib.hid hx
          have HC := Lib.hid hc
          have HLB : Hid (b < wr.heap.size) := Lib.hid (World.block_lt_of_cell? wr _ hc)
          clear hx hc0 hc
          go_upto_region 16 with fail
          refine wp_region_inv (fun i' v' w' => ([(fun v' _ => v' = (.pointer (some ⟨g, 0, none⟩))), (fun v' _ => v' = (.int .i64 (k : Int))), (fun v' _ => v' = (.int .u64 x)), (fun v' _ => v' = (.slice (some ⟨b, off, none⟩) len0 cap0)), (fun v' _ => v' = (.int .i64 (k : Int))), (fun v' _ => v' = (.pointer (some ⟨b, off + k, none⟩))), (fun v' _ => v' = (.int .u64 x)), (fun v' _ => v' = (.bool false)), (fun v' _ => v' = (.bool false)), (fun v' _ => v' = (.pointer (some ⟨g, 0, none⟩))), (fun v' _ => v' = (.int .i64 (k : Int))), (fun v' _ => v' = (.int .u64 ((k : Int) + 1))), (fun v' _ => v' = (.int .i64 (k : Int))), (fun v' _ => v' = (.int .i64 ((k : Int) + 1))), (fun v' _ => v' = (.int .u64 ((k : Int) + 1))), (fun v' _ => v' = (.bool false)), (fun v' _ => v' = (.bool false))] : List (Value → World → Prop)).getD i' (fun _ _ => True) v' w') (by kernel_rfl) (by kernel_rfl) (stab_list (by
              repeat (first | exact allStab_nil | refine allStab_cons (stab_eq _) ?_ | refine allStab_cons (stab_slice _ _) ?_))) ?_ ?_
          · refine steps_cons rfl ?_ ?_
            · intro a w hR K hK
              have e5 : a.tmps.getD 5 undef = (.pointer (some ⟨g, 0, none⟩)) := hR.old 5 (by kernel_rfl) rfl
              rw [if_pos (wanted_none rfl)]
              have hB := hR.bel
              clear hR
              go_simp
              exact hK _ _ (belowSame _) rfl
            refine steps_cons rfl ?_ ?_
            · intro a w hR K hK
              have e7 : a.tmps.getD 7 undef = (.int .i64 (k : Int)) := hR.old 7 (by kernel_rfl) rfl
              rw [if_pos (wanted_none rfl)]
              have hB := hR.bel
              clear hR
              go_simp
              exact hK _ _ (belowSame _) rfl
            refine steps_cons rfl ?_ ?_
            · intro a w hR K hK
              obtain ⟨v54, e54, _, q54⟩ := hR.val 0 54 (by kernel_rfl) (by kernel_rfl)
              obtain rfl : v54 = (.pointer (some ⟨g, 0, none⟩)) := q54
              obtain ⟨v55, e55, _, q55⟩ := hR.val 1 55 (by kernel_rfl) (by kernel_rfl)
              obtain rfl : v55 = (.int .i64 (k : Int)) := q55
              rw [if_pos (wanted_none rfl)]
              have ho := HO.out.then_ (belowUndrew hR.bel)
              have kl := kword hlt HX.out ho
              clear hR ho
              go_simp
              refine kl.mono ?_
              rintro e w' ⟨rfl, rfl⟩
              exact hK _ _ (belowSame _) rfl
            refine steps_cons rfl ?_ ?_
            · intro a w hR K hK
              have e0 : a.tmps.getD 0 undef = (.slice (some ⟨b, off, none⟩) len0 cap0) := hR.old 0 (by kernel_rfl) rfl
              rw [if_pos (wanted_none rfl)]
              have hB := hR.bel
              clear hR
              go_simp
              exact hK _ _ (belowSame _) rfl
            refine steps_cons rfl ?_ ?_
            · intro a w hR K hK
              have e7 : a.tmps.getD 7 undef = (.int .i64 (k : Int)) := hR.old 7 (by kernel_rfl) rfl
              rw [if_pos (wanted_none rfl)]
              have hB := hR.bel
              clear hR
              go_simp
              exact hK _ _ (belowSame _) rfl
            refine steps_cons rfl ?_ ?_
            · intro a w hR K hK
              obtain ⟨v57, e57, _, q57⟩ := hR.val 3 57 (by kernel_rfl) (by kernel_rfl)
              obtain rfl : v57 = (.slice (some ⟨b, off, none⟩) len0 cap0) := q57
              obtain ⟨v58, e58, _, q58⟩ := hR.val 4 58 (by kernel_rfl) (by kernel_rfl)
              obtain rfl : v58 = (.int .i64 (k : Int)) := q58
              rw [if_pos (wanted_none rfl)]
              have hB := hR.bel
              clear hR
              go_simp
              exact hK _ _ (belowSame _) rfl
            refine steps_cons rfl ?_ ?_
            · intro a w hR K hK
              obtain ⟨v59, e59, _, q59⟩ := hR.val 5 59 (by kernel_rfl) (by kernel_rfl)
              obtain rfl : v59 = (.pointer (some ⟨b, off + k, none⟩)) := q59
              rw [if_pos (wanted_none rfl)]
              have hc := (hR.bel.cell (p := ⟨b, off + k, none⟩) HLB.out).trans HC.out
              clear hR
              go_simp
              exact hK _ _ (belowSame _) rfl
            refine steps_cons rfl ?_ ?_
            · intro a w hR K hK
              obtain ⟨v56, e56, _, q56⟩ := hR.val 2 56 (by kernel_rfl) (by kernel_rfl)
              obtain rfl : v56 = (.int .u64 x) := q56
              obtain ⟨v60, e60, _, q60⟩ := hR.val 6 60 (by kernel_rfl) (by kernel_rfl)
              obtain rfl : v60 = (.int .u64 x) := q60
              rw [if_pos (wanted_none rfl)]
              have hB := hR.bel
              clear hR
              go_simp
              exact hK _ _ (belowSame _) rfl
            refine steps_cons rfl ?_ ?_
            · intro a w hR K hK
              obtain ⟨v61, e61, _, q61⟩ := hR.val 7 61 (by kernel_rfl) (by kernel_rfl)
              obtain rfl : v61 = (.bool false) := q61
              rw [if_pos (wanted_none rfl)]
              have hB := hR.bel
              clear hR
              go_simp
              exact hK _ _ (belowSame _) rfl
            refine steps_cons rfl ?_ ?_
            · intro a w hR K hK
              have e5 : a.tmps.getD 5 undef = (.pointer (some ⟨g, 0, none⟩)) := hR.old 5 (by kernel_rfl) rfl
              rw [if_pos (hR.wants (o := _) rfl (by kernel_rfl : depB _ 8 = true) (by kernel_rfl : dstAt _ 8 = some 62) (fun _ h => h))]
              have hB := hR.bel
              clear hR
              go_simp
              exact hK _ _ (belowSame _) rfl
            refine steps_cons rfl ?_ ?_
            · intro a w hR K hK
              have e7 : a.tmps.getD 7 undef = (.int .i64 (k : Int)) := hR.old 7 (by kernel_rfl) rfl
              rw [if_pos (hR.wants (o := _) rfl (by kernel_rfl : depB _ 8 = true) (by kernel_rfl : dstAt _ 8 = some 62) (fun _ h => h))]
              have hB := hR.bel
              clear hR
              go_simp
              exact hK _ _ (belowSame _) rfl
            refine steps_cons rfl ?_ ?_
            · intro a w hR K hK
              obtain ⟨v63, e63, _, q63⟩ := hR.val 9 63 (by kernel_rfl) (by kernel_rfl)
              obtain rfl : v63 = (.pointer (some ⟨g, 0, none⟩)) := q63
              obtain ⟨v64, e64, _, q64⟩ := hR.val 10 64 (by kernel_rfl) (by kernel_rfl)
              obtain rfl : v64 = (.int .i64 (k : Int)) := q64
              rw [if_pos (hR.wants (o := _) rfl (by kernel_rfl : depB _ 8 = true) (by kernel_rfl : dstAt _ 8 = some 62) (fun _ h => h))]
              have ho := HO.out.then_ (belowUndrew hR.bel)
              have kl := kepoch hlt ho
              clear hR ho
              go_simp
              refine kl.mono ?_
              rintro e w' ⟨rfl, rfl⟩
              exact hK _ _ (belowSame _) rfl
            refine steps_cons rfl ?_ ?_
            · intro a w hR K hK
              have e7 : a.tmps.getD 7 undef = (.int .i64 (k : Int)) := hR.old 7 (by kernel_rfl) rfl
              rw [if_pos (hR.wants (o := _) rfl (by kernel_rfl : depB _ 8 = true) (by kernel_rfl : dstAt _ 8 = some 62) (fun _ h => h))]
              have hB := hR.bel
              clear hR
              go_simp
              exact hK _ _ (belowSame _) rfl
            refine steps_cons rfl ?_ ?_
            · intro a w hR K hK
              obtain ⟨v66, e66, _, q66⟩ := hR.val 12 66 (by kernel_rfl) (by kernel_rfl)
              obtain rfl : v66 = (.int .i64 (k : Int)) := q66
              rw [if_pos (hR.wants (o := _) rfl (by kernel_rfl : depB _ 8 = true) (by kernel_rfl : dstAt _ 8 = some 62) (fun _ h => h))]
              have hB := hR.bel
              clear hR
              go_simp
              exact hK _ _ (belowSame _) rfl
            refine steps_cons rfl ?_ ?_
            · intro a w hR K hK
              obtain ⟨v67, e67, _, q67⟩ := hR.val 13 67 (by kernel_rfl) (by kernel_rfl)
              obtain rfl : v67 = (.int .i64 ((k : Int) + 1)) := q67
              rw [if_pos (hR.wants (o := _) rfl (by kernel_rfl : depB _ 8 = true) (by kernel_rfl : dstAt _ 8 = some 62) (fun _ h => h))]
              have hB := hR.bel
              clear hR
              go_simp
              exact hK _ _ (belowSame _) rfl
            refine steps_cons rfl ?_ ?_
            · intro a w hR K hK
              obtain ⟨v65, e65, _, q65⟩ := hR.val 11 65 (by kernel_rfl) (by kernel_rfl)
              obtain rfl : v65 = (.int .u64 ((k : Int) + 1)) := q65
              obtain ⟨v68, e68, _, q68⟩ := hR.val 14 68 (by kernel_rfl) (by kernel_rfl)
              obtain rfl : v68 = (.int .u64 ((k : Int) + 1)) := q68
              rw [if_pos (hR.wants (o := _) rfl (by kernel_rfl : depB _ 8 = true) (by kernel_rfl : dstAt _ 8 = some 62) (fun _ h => h))]
              have hB := hR.bel
              clear hR
              go_simp
              exact hK _ _ (belowSame _) rfl
            refine steps_cons rfl ?_ ?_
            · intro a w hR K hK
              obtain ⟨v62, e62, _, q62⟩ := hR.val 8 62 (by kernel_rfl) (by kernel_rfl)
              obtain rfl : v62 = (.bool false) := q62
              obtain ⟨v69, e69, _, q69⟩ := hR.val 15 69 (by kernel_rfl) (by kernel_rfl)
              obtain rfl : v69 = (.bool false) := q69
              rw [if_pos (wanted_none rfl)]
              have hB := hR.bel
              clear hR
              go_simp
              exact hK _ _ (belowSame _) rfl
            exact steps_nil
          · intro a' w' hF
            obtain ⟨v70, e70, _, q70⟩ := hF.val 16 70 (by decide) (by kernel_rfl)
            obtain rfl : v70 = (.bool false) := q70
            have hB := belowUndrew hF.bel
            have hf := hF.frame
            rw [show dsts _ = [54, 55, 56, 57, 58, 59, 60, 61, 62, 63, 64, 65, 66, 67, 68, 69, 70] from by kernel_rfl] at hf
            obtain ⟨z54, h54⟩ : ∃ z, a'.tmps.getD 54 undef = z := ⟨_, rfl⟩
            obtain ⟨z55, h55⟩ : ∃ z, a'.tmps.getD 55 undef = z := ⟨_, rfl⟩
            obtain ⟨z56, h56⟩ : ∃ z, a'.tmps.getD 56 undef = z := ⟨_, rfl⟩
            obtain ⟨z57, h57⟩ : ∃ z, a'.tmps.getD 57 undef = z := ⟨_, rfl⟩
            obtain ⟨z58, h58⟩ : ∃ z, a'.tmps.getD 58 undef = z := ⟨_, rfl⟩
            obtain ⟨z59, h59⟩ : ∃ z, a'.tmps.getD 59 undef = z := ⟨_, rfl⟩
            obtain ⟨z60, h60⟩ : ∃ z, a'.tmps.getD 60 undef = z := ⟨_, rfl⟩
            obtain ⟨z61, h61⟩ : ∃ z, a'.tmps.getD 61 undef = z := ⟨_, rfl⟩
            obtain ⟨z62, h62⟩ : ∃ z, a'.tmps.getD 62 undef = z := ⟨_, rfl⟩
            obtain ⟨z63, h63⟩ : ∃ z, a'.tmps.getD 63 undef = z := ⟨_, rfl⟩
            obtain ⟨z64, h64⟩ : ∃ z, a'.tmps.getD 64 undef = z := ⟨_, rfl⟩
            obtain ⟨z65, h65⟩ : ∃ z, a'.tmps.getD 65 undef = z := ⟨_, rfl⟩
            obtain ⟨z66, h66⟩ : ∃ z, a'.tmps.getD 66 undef = z := ⟨_, rfl⟩
            obtain ⟨z67, h67⟩ : ∃ z, a'.tmps.getD 67 undef = z := ⟨_, rfl⟩
            obtain ⟨z68, h68⟩ : ∃ z, a'.tmps.getD 68 undef = z := ⟨_, rfl⟩
            obtain ⟨z69, h69⟩ : ∃ z, a'.tmps.getD 69 undef = z := ⟨_, rfl⟩
            simp only [List.foldl_cons, List.foldl_nil, h54, h55, h56, h57, h58, h59, h60, h61, h62, h63, h64, h65, h66, h67, h68, h69, e70] at hf
            simp only [List.setIfInBounds_toArray, List.set_cons_zero, List.set_cons_succ] at hf
            clear hF e70 h54 h55 h56 h57 h58 h59 h60 h61 h62 h63 h64 h65 h66 h67 h68 h69
            subst hf
            have HO2 := Lib.hid (HO.out.then_ hB)
            clear hB
            go_wp2_with fail
            go_roundw
            case rel => exact ⟨k + 1, by go_num, by omega, HO2⟩
            case measure => simp [intOf]; omega
        · go_wp2_with (first
            | (go_at_call 12; refine (alive_any _).mono ?_; rintro e w1 ⟨rfl, hb⟩; have H1 := Lib.hid (HO.out.then_ hb); clear hb)
            | (go_at_call 23; (with_reducible refine (klast H1.out).mono ?_); rintro e w2 ⟨rfl, rfl⟩))
          go_ret
          exact ⟨ret_bool (by first | rfl | simp), H1.out.bel⟩
end Go.Proofs.Ytlnomfaaldjnpaa.diskWords
