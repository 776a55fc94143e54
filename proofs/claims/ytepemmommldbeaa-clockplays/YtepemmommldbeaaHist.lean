/- What a clock's steps come to: sums, the last eight, the bound. Plain laws. No condition. -/
import Derived.Test.YtepemmommldbeaaClock
namespace Go.Proofs.Ytepemmommldbeaa.CL
open Go.RowKit
set_option linter.unusedVariables false

def lastW (hs : List Int) : List Int := hs.drop (hs.length - 8)
theorem lastW_len (hs : List Int) : (lastW hs).length = min hs.length 8 := by unfold lastW; rw [List.length_drop]; omega
theorem nextW_last (hs : List Int) (c : Int) : nextW (lastW hs) c = lastW (hs ++ [c]) := by
  unfold nextW
  rw [lastW_len]
  by_cases h : min hs.length 8 = 8
  · rw [if_pos h]
    unfold lastW
    rw [List.drop_drop, List.length_append, List.drop_append_of_le_length (by simp)]
    congr 2
    simp; omega
  · rw [if_neg h]
    have h1 : hs.length - 8 = 0 := by omega
    have h2 : (hs ++ [c]).length - 8 = 0 := by simp; omega
    unfold lastW
    rw [h1, h2]; rfl
def hist (zs : List Int) (k : Nat) : List Int := (zs.take k).map clampI
theorem hist_len {zs : List Int} {k : Nat} (h : k ≤ zs.length) : (hist zs k).length = k := by unfold hist; simp; omega
theorem hist_snoc (zs : List Int) (k : Nat) (x : Int) (h : zs[k]? = some x) : hist zs k ++ [clampI x] = hist zs (k + 1) := by
  unfold hist
  rw [List.take_add_one, h]
  simp
def S (zs : List Int) (k : Nat) : Int := (hist zs k).sum
theorem S_snoc (zs : List Int) (k : Nat) (x : Int) (h : zs[k]? = some x) : S zs k + clampI x = S zs (k + 1) := by
  unfold S
  rw [← hist_snoc zs k x h]
  simp
theorem hist_small (zs : List Int) (k : Nat) : Small (hist zs k) := by
  intro x hx
  unfold hist at hx
  obtain ⟨y, _, rfl⟩ := List.mem_map.1 hx
  exact clamp_b y
theorem S_b (zs : List Int) (k : Nat) : 0 ≤ S zs k ∧ S zs k ≤ 8 * (k : Int) := by
  have h := (hist_small zs k).sum
  have h2 : (hist zs k).length ≤ k := by unfold hist; simp; omega
  unfold S
  omega
def brokeN (zs : List Int) : Nat → Bool
  | 0 => false
  | k + 1 => brokeN zs k || badW (lastW (hist zs (k + 1)))
theorem last_sum (zs : List Int) (k : Nat) (h8 : 8 ≤ k) (hk : k ≤ zs.length) : (lastW (hist zs k)).sum = S zs k - S zs (k - 8) := by
  have h1 : (hist zs k).take (k - 8) = hist zs (k - 8) := by
    unfold hist
    rw [← List.map_take, List.take_take]
    congr 2; omega
  have h2 : (hist zs k).sum = ((hist zs k).take (k - 8)).sum + ((hist zs k).drop (k - 8)).sum := by
    rw [← List.sum_append, List.take_append_drop]
  unfold lastW
  rw [hist_len hk]
  unfold S
  rw [h1] at h2
  omega
theorem S_mono (zs : List Int) {a b : Nat} (h : a ≤ b) : S zs a ≤ S zs b := by
  have h1 : (hist zs b).take a = hist zs a := by
    unfold hist
    rw [← List.map_take, List.take_take]
    congr 2; omega
  have h2 : (hist zs b).sum = ((hist zs b).take a).sum + ((hist zs b).drop a).sum := by
    rw [← List.sum_append, List.take_append_drop]
  have h3 : Small ((hist zs b).drop a) := fun x hx => hist_small zs b x (List.mem_of_mem_drop hx)
  have h4 := h3.sum
  unfold S
  rw [h1] at h2
  omega
theorem kept_win (zs : List Int) (n : Nat) (hb : brokeN zs n = false) (hn : n ≤ zs.length) : ∀ k, k ≤ n → 8 ≤ k → 7 ≤ S zs k - S zs (k - 8) ∧ S zs k - S zs (k - 8) ≤ 9 := by
  induction n with
  | zero => intro k hk h8; omega
  | succ n ih =>
    unfold brokeN at hb
    simp only [Bool.or_eq_false_iff] at hb
    intro k hk h8
    by_cases hkn : k ≤ n
    · exact ih hb.1 (by omega) k hkn h8
    · obtain rfl : k = n + 1 := by omega
      have h2 := hb.2
      unfold badW at h2
      rw [lastW_len, hist_len hn, last_sum zs _ h8 hn] at h2
      rw [decide_eq_true (by omega)] at h2
      simp at h2
      have e : n + 1 - 8 = n - 7 := by omega
      rw [e]
      omega
theorem bound (zs : List Int) (n : Nat) (hb : brokeN zs n = false) (hn : n ≤ zs.length) (h8 : 8 ≤ n) : ∀ k, k ≤ n → 7 * (k : Int) - 72 ≤ 8 * S zs k ∧ 8 * S zs k ≤ 9 * (k : Int) + 72 := by
  have hw := kept_win zs n hb hn
  have hS8 : S zs 8 ≤ 9 := by
    have := (hw 8 (by omega) (by omega)).2
    have h0 := (S_b zs 0).2
    have h00 := (S_b zs 0).1
    simp at this
    omega
  intro k
  induction k using Nat.strongRecOn with
  | _ k ih =>
    intro hk
    by_cases h : k < 8
    · have h1 := S_mono zs (show k ≤ 8 by omega)
      have h2 := (S_b zs k).1
      omega
    · have h1 := ih (k - 8) (by omega) (by omega)
      have h2 := hw k hk (by omega)
      omega
end Go.Proofs.Ytepemmommldbeaa.CL
