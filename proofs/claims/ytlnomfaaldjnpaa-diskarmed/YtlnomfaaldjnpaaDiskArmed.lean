/- DiskArmed: the walk. No condition. -/
import Derived.Test.YtlnomfaaldjnpaaDkEval
import Derived.Deep.CutBlock
import Derived.Deep.Cut
namespace Go.Proofs.Ytlnomfaaldjnpaa.diskArmed
open Go.RowKit Go.Proofs.Ytlnomfaaldjnpaa.DK Go.Proofs.Ytlnomfaaldjnpaa.MI
set_option linter.unusedVariables false
set_option linter.unusedSimpArgs false

def aD1 : Dk := admitK (newK 12) 1 1
def aD2 (a : ByteArray) : Dk := oneK aD1 1 11 a
def aD3 (a : ByteArray) : Dk := settleK (aD2 a) 1
def aR (a b : ByteArray) (n : Nat) (keep : List Int) : Nat → Dk
  | 0 => armK (aD3 a) (n : Int) keep
  | k + 1 => oneK { aR a b n keep k with left := (aR a b n keep k).left - 1 } 1 (k : Int) b
def aC (a b : ByteArray) (n : Nat) (keep : List Int) : Dk := cutK (aR a b n keep n) keep
def aE (a b : ByteArray) (n : Nat) (keep : List Int) : Dk := restoreK (aC a b n keep)
def aF (a b : ByteArray) (n : Nat) (keep : List Int) : Dk := armK (armK (aE a b n keep) 0 []) (-1) []
def aG (a b : ByteArray) (n : Nat) (keep : List Int) : Dk := oneK (aF a b n keep) 1 0 a
theorem aD1_eq : admitE (newK 12) 1 1 = 0 ∧ admitK (newK 12) 1 1 = aD1 := ⟨by kernel_rfl, rfl⟩
theorem aD2_eq (a : ByteArray) (h : a.size = 64) : writeE aD1 1 1 11 a = 0 ∧ writeK aD1 1 1 11 a = aD2 a := write_one (by kernel_rfl) (by kernel_rfl) (by kernel_rfl) (by kernel_rfl) (by decide) h (by decide) (by decide +kernel)
theorem aD3_eq {a : ByteArray} : barrierE (aD2 a) 1 1 = 0 ∧ barrierK (aD2 a) 1 1 = aD3 a := ⟨by kernel_rfl, by kernel_rfl⟩
structure Fields (a b : ByteArray) (n k : Nat) (keep : List Int) (D : Dk) : Prop where
  on : D.on = true
  room : D.room = 12
  armed : D.armed = true
  left : D.left = (n : Int) - (k : Int)
  stays : D.stays = keep
  table : D.table = (aD3 a).table
  lasts : D.lasts = (aD3 a).lasts
  seq : D.seq = k + 1
  waits : D.waits.length = k ∧ ∀ i : Nat, i < k → D.waits.getD i wr0 = ⟨1, (i : Int), (i : Int) + 2, b⟩
theorem aR_fields (a b : ByteArray) (n : Nat) (keep : List Int) (k : Nat) : Fields a b n k keep (aR a b n keep k) := by
  induction k with
  | zero => exact ⟨rfl, rfl, by show decide (0 ≤ (n : Int)) = true; simp, by show (n : Int) = _; omega, rfl, rfl, rfl, by kernel_rfl, by kernel_rfl, fun i h => by omega⟩
  | succ k ih =>
    refine ⟨ih.on, ih.room, ih.armed, by show (aR a b n keep k).left - 1 = _; rw [ih.left]; omega, ih.stays, ih.table, ih.lasts, by show (aR a b n keep k).seq + 1 = _; rw [ih.seq], ?_, fun i hi => ?_⟩
    · show ((aR a b n keep k).waits ++ [_]).length = _
      rw [List.length_append, ih.waits.1]; rfl
    · show ((aR a b n keep k).waits ++ [(⟨1, (k : Int), ((aR a b n keep k).seq : Int) + 1, b⟩ : Wr)]).getD i wr0 = _
      rw [ih.seq, List.getD_eq_getElem?_getD]
      by_cases e : i = k
      · subst e
        rw [List.getElem?_append_right (by rw [ih.waits.1]; omega), ih.waits.1, Nat.sub_self]
        show (⟨1, (i : Int), ((i + 1 : Nat) : Int) + 1, b⟩ : Wr) = _
        rw [show ((i + 1 : Nat) : Int) + 1 = (i : Int) + 2 by omega]
      · rw [List.getElem?_append_left (by rw [ih.waits.1]; omega), ← List.getD_eq_getElem?_getD]
        exact ih.waits.2 i (by omega)
theorem write_armed {D : Dk} {n e x : Int} {b : ByteArray} (h1 : D.on = true) (h2 : inNode n = true) (h3 : D.armed = true) (hl : 0 < D.left) (h4 : D.table n = e) (h5 : e ≠ 0) (hb : b.size = 64) (ha : 0 ≤ x) (ha2 : x + 1 ≤ (D.room : Int)) :
    writeE D n e x b = 0 ∧ writeK D n e x b = oneK { D with left := D.left - 1 } n x b := by
  have m1 : mayK D n = 0 := by unfold mayK; rw [h1, h2]; rfl
  have m2 : argB b = true := (argB_iff b).2 (by omega)
  have m3 : admK D n e = 0 := by unfold admK; rw [h4]; simp [h5]
  have hq : b.size / 64 = 1 := by omega
  have m4 : thereK D x ((b.size / 64 : Nat) : Int) = true := by unfold thereK; rw [hq]; simp; omega
  have g1 : goesB D = false := by unfold goesB; rw [h3]; simp [hl]
  have g2 : goesK D = { D with left := D.left - 1 } := by unfold goesK; rw [h3]; simp [hl]
  constructor
  · unfold writeE; rw [if_pos m1, if_pos m2, if_pos m3, m4, g1]; rfl
  · unfold writeK; rw [if_pos ⟨m1, m2, m3, m4⟩, g1, g2, hq]
    show oneK { D with left := D.left - 1 } n (x + ((0 : Nat) : Int)) (sect b 0) = _
    rw [sect_one hb, show x + ((0 : Nat) : Int) = x by omega]
section
variable {a b : ByteArray} {n k : Nat} {keep : List Int}
theorem tab1 (h : Fields a b n k keep (aR a b n keep k)) : (aR a b n keep k).table 1 = 1 := by rw [h.table]; kernel_rfl
theorem w1_eq (hb : b.size = 64) (hk : k < n) (hn : n ≤ 10) : writeE (aR a b n keep k) 1 1 (k : Int) b = 0 ∧ writeK (aR a b n keep k) 1 1 (k : Int) b = aR a b n keep (k + 1) := by
  have h := aR_fields a b n keep k
  exact write_armed h.on rfl h.armed (by rw [h.left]; omega) (tab1 h) (by decide) hb (by omega) (by rw [h.room]; omega)
theorem w2_eq (hb : b.size = 64) (k : Nat) (x : Int) : writeE (aR a b n keep k) 1 2 x b = 34 := by
  have h := aR_fields a b n keep k
  unfold writeE mayK admK
  rw [h.on, tab1 h, (argB_iff b).2 (by omega)]
  rfl
theorem w3_eq (hb : b.size = 64) (k : Nat) : writeE (aR a b n keep k) 1 1 12 b = 30 := by
  have h := aR_fields a b n keep k
  unfold writeE mayK admK thereK
  rw [h.on, tab1 h, (argB_iff b).2 (by omega), h.room, show b.size / 64 = 1 by omega]
  rfl
theorem bar_eq : barrierE (aR a b n keep n) 1 1 = 14 ∧ barrierK (aR a b n keep n) 1 1 = aC a b n keep := by
  have h := aR_fields a b n keep n
  have hl : (aR a b n keep n).left = 0 := by rw [h.left]; omega
  have g1 : goesB (aR a b n keep n) = true := by unfold goesB; rw [h.armed, hl]; rfl
  have g2 : goesK (aR a b n keep n) = aC a b n keep := by unfold goesK aC; rw [h.armed, hl, h.stays]; rfl
  have m1 : mayK (aR a b n keep n) 1 = 0 := by unfold mayK; rw [h.on]; rfl
  have m2 : admK (aR a b n keep n) 1 1 = 0 := by unfold admK; rw [tab1 h]; rfl
  constructor
  · unfold barrierE; rw [if_pos m1, if_pos m2, g1]; rfl
  · unfold barrierK; rw [if_pos ⟨m1, m2⟩, g1, g2]; rfl
theorem cutL_at (L : Int → Option Wr) (ws : List Wr) (keep : List Int) (b : ByteArray) (k : Nat) (hk : k ≤ 10) (hw : ∀ i : Nat, i < k → ws.getD i wr0 = ⟨1, (i : Int), (i : Int) + 2, b⟩) (hL : ∀ i : Nat, i ≤ 10 → L (i : Int) = none) :
    ∀ x : Nat, cutL L ws keep k (x : Int) = if x < k ∧ staysB keep x = true then some ⟨1, (x : Int), (x : Int) + 2, b⟩ else L (x : Int) := by
  induction k with
  | zero => intro x; rw [if_neg (by omega)]; rfl
  | succ k ih =>
    intro x
    have ih' := ih (by omega) (fun i hi => hw i (by omega))
    have hck := ih' k
    rw [if_neg (by omega), hL k (by omega)] at hck
    unfold cutL
    cases hs : staysB keep k
    · rw [if_neg (by decide), ih' x]
      by_cases hx : x = k
      · subst hx; rw [if_neg (by omega), if_neg (by rw [hs]; simp)]
      · by_cases h1 : x < k ∧ staysB keep x = true
        · rw [if_pos h1, if_pos ⟨by omega, h1.2⟩]
        · rw [if_neg h1, if_neg (by intro h; exact h1 ⟨by omega, h.2⟩)]
    · rw [if_pos rfl, hw k (by omega)]
      unfold keepL
      rw [if_pos (by show ((cutL L ws keep k (k : Int)).getD wr0).s < (k : Int) + 2; rw [hck]; show (0 : Int) < _; omega)]
      show putF _ (k : Int) _ (x : Int) = _
      by_cases hx : x = k
      · subst hx; rw [putF_same, if_pos ⟨by omega, hs⟩]
      · rw [putF_other _ _ (by omega), ih' x]
        by_cases h1 : x < k ∧ staysB keep x = true
        · rw [if_pos h1, if_pos ⟨by omega, h1.2⟩]
        · rw [if_neg h1, if_neg (by intro h; exact h1 ⟨by omega, h.2⟩)]
theorem lasts_low (a : ByteArray) (i : Nat) (h : i ≤ 10) : (aD3 a).lasts (i : Int) = none := by
  rcases (by omega : i = 0 ∨ i = 1 ∨ i = 2 ∨ i = 3 ∨ i = 4 ∨ i = 5 ∨ i = 6 ∨ i = 7 ∨ i = 8 ∨ i = 9 ∨ i = 10) with rfl | rfl | rfl | rfl | rfl | rfl | rfl | rfl | rfl | rfl | rfl <;> kernel_rfl
theorem aE_fields (hn : n ≤ 10) : (aE a b n keep).on = true ∧ (aE a b n keep).room = 12 ∧ (aE a b n keep).table = (aD3 a).table ∧ (aE a b n keep).now = dataOf (cutL (aD3 a).lasts (aR a b n keep n).waits keep n) ∧ (aC a b n keep).on = false := by
  have h := aR_fields a b n keep n
  have hc : aC a b n keep = { aR a b n keep n with on := false, lasts := cutL (aR a b n keep n).lasts (aR a b n keep n).waits keep (aR a b n keep n).waits.length, now := dataOf (cutL (aR a b n keep n).lasts (aR a b n keep n).waits keep (aR a b n keep n).waits.length), waits := [], armed := false, left := -1, stays := [] } := by
    unfold aC cutK; rw [if_pos h.on]
  have hr : (aC a b n keep).room = 12 := by rw [hc]; exact h.room
  have he : aE a b n keep = { aC a b n keep with on := true } := by unfold aE restoreK; rw [if_pos (by rw [hr]; omega)]
  rw [he]
  refine ⟨rfl, hr, by rw [hc]; exact h.table, ?_, by rw [hc]⟩
  rw [hc]
  show dataOf (cutL (aR a b n keep n).lasts (aR a b n keep n).waits keep (aR a b n keep n).waits.length) = _
  rw [h.lasts, h.waits.1]
theorem read_low (hn : n ≤ 10) (i : Nat) (hi : i ≤ 10) : readE (aE a b n keep) (i : Int) 1 = 0 ∧ readT (aE a b n keep) (i : Int) 1 = if i < n ∧ staysB keep i = true then b else zsec := by
  obtain ⟨h1, h2, h3, h4, h5⟩ := aE_fields (a := a) (b := b) (n := n) (keep := keep) hn
  refine read_one (read_good (D := aE a b n keep) (a := (i : Int)) (k := 1) h1 (by omega) (by rw [h2]; omega)).1 ?_
  rw [h4]
  unfold dataOf
  rw [cutL_at _ _ keep b n hn (aR_fields a b n keep n).waits.2 (lasts_low a), lasts_low a i hi]
  split <;> rfl
theorem cutL_far (L : Int → Option Wr) (ws : List Wr) (keep : List Int) (k : Nat) (x : Int) (hw : ∀ i : Nat, i < k → (ws.getD i wr0).a ≠ x) : cutL L ws keep k x = L x := by
  induction k with
  | zero => rfl
  | succ k ih =>
    have ih' := ih (fun i hi => hw i (by omega))
    unfold cutL
    split
    · unfold keepL
      split
      · rw [putF_other _ _ (fun e => hw k (by omega) e.symm), ih']
      · exact ih'
    · exact ih'
theorem read_high (hn : n ≤ 10) : readE (aE a b n keep) 11 1 = 0 ∧ readT (aE a b n keep) 11 1 = a := by
  obtain ⟨h1, h2, h3, h4, h5⟩ := aE_fields (a := a) (b := b) (n := n) (keep := keep) hn
  refine read_one (read_good (D := aE a b n keep) (a := 11) (k := 1) h1 (by omega) (by rw [h2]; omega)).1 ?_
  rw [h4]
  unfold dataOf
  rw [cutL_far _ _ keep n 11 (fun i hi => by rw [(aR_fields a b n keep n).waits.2 i hi]; show (i : Int) ≠ 11; omega)]
  kernel_rfl
theorem aG_eq (hn : n ≤ 10) (ha : a.size = 64) : writeE (aF a b n keep) 1 1 0 a = 0 ∧ writeK (aF a b n keep) 1 1 0 a = aG a b n keep := by
  obtain ⟨h1, h2, h3, h4, h5⟩ := aE_fields (a := a) (b := b) (n := n) (keep := keep) hn
  exact write_one (D := aF a b n keep) h1 rfl rfl (by show (aE a b n keep).table 1 = 1; rw [h3]; kernel_rfl) (by decide) ha (by omega) (by show _ ≤ ((aE a b n keep).room : Int); rw [h2]; omega)
theorem bar2_eq (hn : n ≤ 10) : barrierE (aG a b n keep) 1 1 = 0 ∧ barrierK (aG a b n keep) 1 1 = settleK (aG a b n keep) 1 := by
  obtain ⟨h1, h2, h3, h4, h5⟩ := aE_fields (a := a) (b := b) (n := n) (keep := keep) hn
  exact barrier_good (D := aG a b n keep) h1 rfl rfl (by show (aE a b n keep).table 1 = 1; rw [h3]; kernel_rfl) (by decide)
end

set_option maxHeartbeats 8000000 in
set_option maxRecDepth 100000 in
theorem walk_in (a b : ByteArray) (n : Nat) (A : Option Addr) (m c : Nat) (z : List Int) (w : World) (hA : a.size = 64) (hB : b.size = 64) (hn : n ≤ 10) (hm : m ≤ 20) (hz : IsRow .i64 w A m c z) :
    Calls Try.prog 7 #[.string a, .string b, .int .i64 (n : Int), .slice A m c] w fun e w' => e = .returned (.bool true) ∧ Below w.heap.size w w' := by
  have knew := own_new w (belowSame w) 12 (by omega) (by omega)
  obtain ⟨keep, hkeep⟩ : ∃ keep, z.take m = keep := ⟨_, rfl⟩
  have k1 : ∀ {g : Nat} {W : World}, Own w g 0 (newK 12) W → Calls Try.prog 14 #[.pointer (some ⟨g, 0, none⟩), .int .i64 1, .int .u64 1] W fun e' w' => e' = .returned (.int .i64 0) ∧ Own w g 0 aD1 w' := fun {g W} h => by
    have := own_admit h 1 1 (by omega); rwa [aD1_eq.1] at this
  have k2 : ∀ {g : Nat} {W : World}, Own w g 0 aD1 W → Calls Try.prog 15 #[.pointer (some ⟨g, 0, none⟩), .int .i64 1, .int .u64 1, .int .i64 11, .string a] W fun e' w' => e' = .returned (.int .i64 0) ∧ Own w g 16 (aD2 a) w' := fun {g W} h => by
    have := own_write h 1 1 11 a (by omega) (by omega); rwa [(aD2_eq a hA).1, (aD2_eq a hA).2] at this
  have k3 : ∀ {g : Nat} {W : World}, Own w g 16 (aD2 a) W → Calls Try.prog 24 #[.pointer (some ⟨g, 0, none⟩), .int .i64 1, .int .u64 1] W fun e' w' => e' = .returned (.int .i64 0) ∧ Own w g 16 (aD3 a) w' := fun {g W} h => by
    have := own_barrier h 1 1 (by omega); rwa [aD3_eq.1, aD3_eq.2] at this
  have k4 : ∀ {g : Nat} {W : World}, Own w g 16 (aD3 a) W → Calls Try.prog 25 #[.pointer (some ⟨g, 0, none⟩), .int .i64 (n : Int), .slice A m c] W fun e' w' => e' = .returned (.tuple #[]) ∧ Own w g 16 (aR a b n keep 0) w' := fun {g W} h => by
    have := own_arm_row h (n : Int) (by omega) hz (by omega); rwa [hkeep] at this
  have kw1 : ∀ {g : Nat} {W : World} {k : Nat}, k < n → Own w g (16 + 16 * k) (aR a b n keep k) W → Calls Try.prog 15 #[.pointer (some ⟨g, 0, none⟩), .int .i64 1, .int .u64 1, .int .i64 (k : Int), .string b] W fun e' w' => e' = .returned (.int .i64 0) ∧ Own w g (16 + 16 * (k + 1)) (aR a b n keep (k + 1)) w' := fun {g W k} hk h => by
    have := own_write h 1 1 (k : Int) b (by omega) (by omega); rwa [(w1_eq hB hk hn).1, (w1_eq hB hk hn).2, show 16 + 16 * k + 16 = 16 + 16 * (k + 1) by omega] at this
  have kw2 : ∀ {g : Nat} {W : World} {k j : Nat}, k < n → Own w g (16 + 16 * (k + 1)) (aR a b n keep (k + 1)) W → Calls Try.prog 15 #[.pointer (some ⟨g, 0, none⟩), .int .i64 1, .int .u64 2, .int .i64 (j : Int), .string b] W fun e' w' => e' = .returned (.int .i64 34) ∧ w' = W := fun {g W k j} hk h => by
    have := own_write_ref h 1 2 (j : Int) b (by omega) (by omega) (refused (by rw [w2_eq hB]; decide) (by rw [w2_eq hB]; decide)); rwa [w2_eq hB] at this
  have kw3 : ∀ {g : Nat} {W : World} {k : Nat}, k < n → Own w g (16 + 16 * (k + 1)) (aR a b n keep (k + 1)) W → Calls Try.prog 15 #[.pointer (some ⟨g, 0, none⟩), .int .i64 1, .int .u64 1, .int .i64 12, .string b] W fun e' w' => e' = .returned (.int .i64 30) ∧ w' = W := fun {g W k} hk h => by
    have := own_write_ref h 1 1 12 b (by omega) (by omega) (refused (by rw [w3_eq hB]; decide) (by rw [w3_eq hB]; decide)); rwa [w3_eq hB] at this
  have ko1 : ∀ {g : Nat} {W : World}, Own w g (16 + 16 * n) (aR a b n keep n) W → Calls Try.prog 26 #[.pointer (some ⟨g, 0, none⟩)] W fun e' w' => e' = .returned (.bool true) ∧ w' = W := fun {g W} h => by
    have := own_on h; rwa [(aR_fields a b n keep n).on] at this
  have kb : ∀ {g : Nat} {W : World}, Own w g (16 + 16 * n) (aR a b n keep n) W → Calls Try.prog 24 #[.pointer (some ⟨g, 0, none⟩), .int .i64 1, .int .u64 1] W fun e' w' => e' = .returned (.int .i64 14) ∧ Own w g (16 + 16 * n) (aC a b n keep) w' := fun {g W} h => by
    have := own_barrier h 1 1 (by omega); rwa [bar_eq.1, bar_eq.2] at this
  have ko2 : ∀ {g : Nat} {W : World}, Own w g (16 + 16 * n) (aC a b n keep) W → Calls Try.prog 26 #[.pointer (some ⟨g, 0, none⟩)] W fun e' w' => e' = .returned (.bool false) ∧ w' = W := fun {g W} h => by
    have := own_on h; rwa [(aE_fields hn).2.2.2.2] at this
  have kr : ∀ {g : Nat} {W : World}, Own w g (16 + 16 * n) (aC a b n keep) W → Calls Try.prog 20 #[.pointer (some ⟨g, 0, none⟩)] W fun e' w' => e' = .returned (.tuple #[]) ∧ Own w g (16 + 16 * n) (aE a b n keep) w' := fun {g W} h => own_restore h
  have kl : ∀ {g : Nat} {W : World} {k : Nat}, k ≤ 10 → Own w g (16 + 16 * n) (aE a b n keep) W → Calls Try.prog 17 #[.pointer (some ⟨g, 0, none⟩), .int .i64 (k : Int), .int .i64 1] W fun e' w' => e' = .returned (.tuple #[.string (if k < n ∧ staysB keep k = true then b else zsec), .int .i64 0]) ∧ Own w g (16 + 16 * n) (aE a b n keep) w' := fun {g W k} hk h => by
    have := own_read h (k : Int) 1; rwa [(read_low hn k hk).1, (read_low hn k hk).2] at this
  have kh : ∀ {g : Nat} {W : World}, Own w g (16 + 16 * n) (aE a b n keep) W → Calls Try.prog 17 #[.pointer (some ⟨g, 0, none⟩), .int .i64 11, .int .i64 1] W fun e' w' => e' = .returned (.tuple #[.string a, .int .i64 0]) ∧ Own w g (16 + 16 * n) (aE a b n keep) w' := fun {g W} h => by
    have := own_read h 11 1; rwa [(read_high hn).1, (read_high hn).2] at this
  have ka1 : ∀ {g : Nat} {W : World}, Own w g (16 + 16 * n) (aE a b n keep) W → Calls Try.prog 25 #[.pointer (some ⟨g, 0, none⟩), .int .i64 0, .slice none 0 0] W fun e' w' => e' = .returned (.tuple #[]) ∧ Own w g (16 + 16 * n) (armK (aE a b n keep) 0 []) w' := fun {g W} h =>
    own_arm h 0 (by decide) none 0 0 [] Lies.nil (by omega) (fun _ => ⟨rfl, rfl⟩)
  have ka2 : ∀ {g : Nat} {W : World}, Own w g (16 + 16 * n) (armK (aE a b n keep) 0 []) W → Calls Try.prog 25 #[.pointer (some ⟨g, 0, none⟩), .int .i64 (-1), .slice none 0 0] W fun e' w' => e' = .returned (.tuple #[]) ∧ Own w g (16 + 16 * n) (aF a b n keep) w' := fun {g W} h =>
    own_arm h (-1) (by decide) none 0 0 [] Lies.nil (by omega) (fun _ => ⟨rfl, rfl⟩)
  have kw4 : ∀ {g : Nat} {W : World}, Own w g (16 + 16 * n) (aF a b n keep) W → Calls Try.prog 15 #[.pointer (some ⟨g, 0, none⟩), .int .i64 1, .int .u64 1, .int .i64 0, .string a] W fun e' w' => e' = .returned (.int .i64 0) ∧ Own w g (16 + 16 * n + 16) (aG a b n keep) w' := fun {g W} h => by
    have := own_write h 1 1 0 a (by omega) (by omega); rwa [(aG_eq hn hA).1, (aG_eq hn hA).2] at this
  have kb2 : ∀ {g : Nat} {W : World}, Own w g (16 + 16 * n + 16) (aG a b n keep) W → Calls Try.prog 24 #[.pointer (some ⟨g, 0, none⟩), .int .i64 1, .int .u64 1] W fun e' w' => e' = .returned (.int .i64 0) ∧ Own w g (16 + 16 * n + 16) (settleK (aG a b n keep) 1) w' := fun {g W} h => by
    have := own_barrier h 1 1 (by omega); rwa [(bar2_eq hn).1, (bar2_eq hn).2] at this
  have ko3 : ∀ {g : Nat} {W : World}, Own w g (16 + 16 * n + 16) (settleK (aG a b n keep) 1) W → Calls Try.prog 26 #[.pointer (some ⟨g, 0, none⟩)] W fun e' w' => e' = .returned (.bool true) ∧ w' = W := fun {g W} h => by
    have := own_on h; rwa [show (settleK (aG a b n keep) 1).on = true from (aE_fields hn).1] at this
  have hst : ∀ i, staysB keep i = (decide (i < m) && oddB (z.getD i 0)) := fun i => hkeep ▸ stays_row hz i
  have HST := Lib.hid hst
  have hcl := fun (h : 0 < m) => hz.cells h
  have HCL := Lib.hid hcl
  clear hst hcl hz hkeep
  generalize settleK (aG a b n keep) 1 = DH at *
  generalize aG a b n keep = DG at *
  generalize aF a b n keep = DF at *
  generalize armK (aE a b n keep) 0 [] = DA at *
  generalize aE a b n keep = DE at *
  generalize aC a b n keep = DC at *
  generalize aD3 a = D3 at *
  generalize aD2 a = D2 at *
  generalize aD1 = D1 at *
  have hmk : ∀ W : World, (Instr.makeSlice 40 (.int .i64 64) (.int .i64 64)).run Try.prog W = .ok (.slice (some ⟨W.heap.size, 0, none⟩) 64 64) (W.alloc (.cells (zeroCells 64) 5)) := zeros_make 64 (by omega)
  have htx := fun (W : World) => zeros_text W
  obtain ⟨Z, hZ⟩ : ∃ Z, zsec = Z := ⟨_, rfl⟩
  rw [hZ] at htx kl
  obtain ⟨ZC, hZC⟩ : ∃ ZC, zeroCells 64 = ZC := ⟨_, rfl⟩
  rw [hZC] at htx hmk
  clear hZC hZ
  have b1 : ((a.size : Int) != 64) = false := by simp; omega
  have b2 : ((b.size : Int) != 64) = false := by simp; omega
  have b3 : decide ((n : Int) < 0) = false := by simp
  have b4 : decide ((10 : Int) < (n : Int)) = false := by simp; omega
  have b5 : decide ((20 : Int) < (m : Int)) = false := by simp; omega
  go_enter Try.func7, Try.ntmps7
  go_wp2_with (first
    | (go_at_call 13; refine knew.mono ?_; rintro e w0 ⟨g, rfl, h0⟩; have H1 := Lib.hid h0; clear h0)
    | (go_at_call 14; (with_reducible refine (k1 H1.out).mono ?_); rintro e w1 ⟨rfl, h1⟩; have H2 := Lib.hid h1; clear h1)
    | (go_at_call 15; (with_reducible refine (k2 H2.out).mono ?_); rintro e w2 ⟨rfl, h2⟩; have H3 := Lib.hid h2; clear h2)
    | (go_at_call 24; (with_reducible refine (k3 H3.out).mono ?_); rintro e w3 ⟨rfl, h3⟩; have H4 := Lib.hid h3; clear h3)
    | (go_at_call 25; (with_reducible refine (k4 H4.out).mono ?_); rintro e w4 ⟨rfl, h4⟩; have H5 := Lib.hid h4; clear h4))
  go_loopw [10] (fun i wr => ∃ k : Nat, i = .int .i64 (k : Int) ∧ k ≤ n ∧ Hid (Own w g (16 + 16 * k) (aR a b n keep k) wr)) (fun i _ => n - (intOf i).toNat)
  case atStart => exact ⟨0, rfl, by omega, H5⟩
  case round =>
    clear H1 H2 H3 H4 H5
    obtain ⟨q, rfl, hq, HO⟩ := hrel
    by_cases hlt : q < n
    · have x1 := fun {W : World} => kw1 (g := g) (W := W) hlt
      have x2 := fun {W : World} => kw2 (g := g) (W := W) (j := q) hlt
      have x3 := fun {W : World} => kw3 (g := g) (W := W) hlt
      clear kw1 kw2 kw3 kl
      go_wp2_with (first
        | (go_at_call 15; (with_reducible refine (x1 HO.out).mono ?_); rintro e w1 ⟨rfl, h1⟩; have H1 := Lib.hid h1; clear h1 HO)
        | (go_at_call 15; (with_reducible refine (x2 H1.out).mono ?_); rintro e w2 ⟨rfl, rfl⟩)
        | (go_at_call 15; (with_reducible refine (x3 H1.out).mono ?_); rintro e w3 ⟨rfl, rfl⟩))
      go_roundw
      case rel => exact ⟨q + 1, by go_num, by omega, H1⟩
      case measure => simp [intOf]; omega
    · have HO2 : Hid (Own w g (16 + 16 * n) (aR a b n keep n) wr) := by rw [show n = q by omega]; rw [show n = q by omega] at HO; exact HO
      clear HO kw1 kw2 kw3
      go_wp2_with (first
        | (go_at_call 26; (with_reducible refine (ko1 HO2.out).mono ?_); rintro e w1 ⟨rfl, rfl⟩)
        | (go_at_call 24; (with_reducible refine (kb HO2.out).mono ?_); rintro e w2 ⟨rfl, h2⟩; have H2 := Lib.hid h2; clear h2 HO2)
        | (go_at_call 26; (with_reducible refine (ko2 H2.out).mono ?_); rintro e w3 ⟨rfl, rfl⟩)
        | (go_at_call 20; (with_reducible refine (kr H2.out).mono ?_); rintro e w4 ⟨rfl, h4⟩; have H4 := Lib.hid h4; clear h4 H2))
      clear hlt ko1 ko2 kb kr
      go_loopw [11, 12, 13, 14] (fun i _ _ _ wr => ∃ k : Nat, i = .int .i64 (k : Int) ∧ k ≤ 11 ∧ Hid (Own w g (16 + 16 * n) DE wr)) (fun i _ _ _ _ => 11 - (intOf i).toNat)
      case atStart => exact ⟨0, rfl, by omega, H4⟩
      case round =>
        clear H4
        obtain ⟨k, rfl, hk, HO⟩ := hrel
        by_cases hlt : k < 11
        · have x1 := kl (k := k) (by omega) HO.out
          obtain ⟨T, hT⟩ : ∃ T, (if k < n ∧ staysB keep k = true then b else Z) = T := ⟨_, rfl⟩
          rw [hT] at x1
          rw [HST.out k] at hT
          clear kl
          go_upto_region 20 with (go_at_call 17; (with_reducible refine x1.mono ?_); rintro e w5 ⟨rfl, h5⟩; have H5 := Lib.hid h5; clear h5)
          have H6 := Lib.hid (H5.out.alloc (.cells ZC 5))
          clear H5 x1
          by_cases hkn : k < n
          · have d0 : decide ((k : Int) < (n : Int)) = true := by simp; omega
            by_cases hkm : k < m
            · have d1 : decide ((k : Int) < (m : Int)) = true := by simp; omega
              obtain ⟨b0, off, rfl, hb0, hc0⟩ := HCL.out (by omega)
              obtain ⟨x, hx⟩ : ∃ x, z.getD k 0 = x := ⟨_, rfl⟩
              have y0 : (w5.alloc (.cells ZC 5)).cell? ⟨b0, off + k, none⟩ = some (.int .i64 x) := by rw [← hx]; exact (H6.out.bel.cell (p := ⟨b0, off + k, none⟩) hb0).trans (hc0 k (by omega))
              rw [hx, show decide (k < m) = true by simp; omega, Bool.true_and] at hT
              clear hx hb0 hc0
              cases o0 : oddB x
              · have p0 : (bits BinOp.and IntKind.i64 x 1 == 1) = false := o0
                rw [o0, if_neg (by simp)] at hT
                subst hT
                clear o0
                go_wp2_with fail
                go_roundw
                case rel => exact ⟨k + 1, by go_num, by omega, H6⟩
                case measure => simp [intOf]; omega
              · have p0 : (bits BinOp.and IntKind.i64 x 1 == 1) = true := o0
                rw [o0, if_pos ⟨hkn, rfl⟩] at hT
                subst hT
                clear o0
                go_wp2_with fail
                go_roundw
                case rel => exact ⟨k + 1, by go_num, by omega, H6⟩
                case measure => simp [intOf]; omega
            · have d1 : decide ((k : Int) < (m : Int)) = false := by simp; omega
              rw [show decide (k < m) = false by simp; omega, Bool.false_and, if_neg (by simp)] at hT
              subst hT
              go_wp2_with fail
              go_roundw
              case rel => exact ⟨k + 1, by go_num, by omega, H6⟩
              case measure => simp [intOf]; omega
          · have d0 : decide ((k : Int) < (n : Int)) = false := by simp; omega
            rw [if_neg (by intro h; exact hkn h.1)] at hT
            subst hT
            go_wp2_with fail
            go_roundw
            case rel => exact ⟨k + 1, by go_num, by omega, H6⟩
            case measure => simp [intOf]; omega
        · clear kl
          go_wp2_with (first
            | (go_at_call 17; (with_reducible refine (kh HO.out).mono ?_); rintro e w1 ⟨rfl, h1⟩; have H1 := Lib.hid h1; clear h1 HO)
            | (go_at_call 25; (with_reducible refine (ka1 H1.out).mono ?_); rintro e w2 ⟨rfl, h2⟩; have H2 := Lib.hid h2; clear h2 H1)
            | (go_at_call 25; (with_reducible refine (ka2 H2.out).mono ?_); rintro e w3 ⟨rfl, h3⟩; have H3 := Lib.hid h3; clear h3 H2)
            | (go_at_call 12; refine (alive_any _).mono ?_; rintro e wz ⟨rfl, hz⟩; have H4 := Lib.hid (H3.out.then_ hz); clear hz H3)
            | (go_at_call 15; (with_reducible refine (kw4 H4.out).mono ?_); rintro e w5 ⟨rfl, h5⟩; have H5 := Lib.hid h5; clear h5 H4)
            | (go_at_call 24; (with_reducible refine (kb2 H5.out).mono ?_); rintro e w6 ⟨rfl, h6⟩; have H6 := Lib.hid h6; clear h6 H5)
            | (go_at_call 26; (with_reducible refine (ko3 H6.out).mono ?_); rintro e w7 ⟨rfl, rfl⟩))
          go_ret
          exact ⟨ret_bool (by first | rfl | simp), H6.out.bel⟩
set_option maxHeartbeats 4000000 in
set_option maxRecDepth 100000 in
theorem walk (a b : ByteArray) (n : Int) (A : Option Addr) (m c : Nat) (z : List Int) (w : World) (g0 : a.size ≤ maxLen) (g1 : b.size ≤ maxLen) (g2 : (Lit.int .i64 n).wf = true) (hz : IsRow .i64 w A m c z) :
    Calls Try.prog 7 #[.string a, .string b, .int .i64 n, .slice A m c] w fun e w' => e = .returned (.bool true) ∧ Below w.heap.size w w' := by
  by_cases hA : a.size = 64
  · have b1 : ((a.size : Int) != 64) = false := by simp; omega
    by_cases hB : b.size = 64
    · have b2 : ((b.size : Int) != 64) = false := by simp; omega
      by_cases h0 : 0 ≤ n
      · have b3 : decide (n < 0) = false := by simp; omega
        by_cases h8 : n ≤ 10
        · have b4 : decide (10 < n) = false := by simp; omega
          by_cases hm : m ≤ 20
          · have := walk_in a b n.toNat A m c z w hA hB (by omega) hm hz
            rwa [show ((n.toNat : Nat) : Int) = n by omega] at this
          · have b5 : decide ((20 : Int) < (m : Int)) = true := by simp; omega
            clear hz
            go_enter Try.func7, Try.ntmps7
            go_wp2_with (go_at_call 12; refine (alive_any _).mono ?_; rintro e w1 ⟨rfl, hb⟩)
            go_ret
            exact ⟨rfl, hb⟩
        · have b4 : decide (10 < n) = true := by simp; omega
          clear hz
          go_enter Try.func7, Try.ntmps7
          go_wp2_with (go_at_call 12; refine (alive_any _).mono ?_; rintro e w1 ⟨rfl, hb⟩)
          go_ret
          exact ⟨rfl, hb⟩
      · have b3 : decide (n < 0) = true := by simp; omega
        clear hz
        go_enter Try.func7, Try.ntmps7
        go_wp2_with (go_at_call 12; refine (alive_any _).mono ?_; rintro e w1 ⟨rfl, hb⟩)
        go_ret
        exact ⟨rfl, hb⟩
    · have b2 : ((b.size : Int) != 64) = true := by simp; omega
      clear hz
      go_enter Try.func7, Try.ntmps7
      go_wp2_with (go_at_call 12; refine (alive_any _).mono ?_; rintro e w1 ⟨rfl, hb⟩)
      go_ret
      exact ⟨rfl, hb⟩
  · have b1 : ((a.size : Int) != 64) = true := by simp; omega
    clear hz
    go_enter Try.func7, Try.ntmps7
    go_wp2_with (go_at_call 12; refine (alive_any _).mono ?_; rintro e w1 ⟨rfl, hb⟩)
    go_ret
    exact ⟨rfl, hb⟩
end Go.Proofs.Ytlnomfaaldjnpaa.diskArmed
