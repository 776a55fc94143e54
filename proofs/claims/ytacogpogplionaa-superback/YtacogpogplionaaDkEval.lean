/- What a disk's calls make of it, where no power goes: plain laws. No condition. -/
import Derived.Test.YtacogpogplionaaDkAlive
namespace Go.Proofs.Ytacogpogplionaa.DK
set_option maxRecDepth 100000
open Go.RowKit Go.Proofs.Ytacogpogplionaa.MI
set_option linter.unusedVariables false
set_option linter.unusedSimpArgs false

section
variable {D D' : Dk} {n e a : Int} {b : ByteArray}
theorem goes_un (h : D.armed = false) : goesB D = false ∧ goesK D = D := by unfold goesB goesK; rw [h]; exact ⟨rfl, rfl⟩
theorem many_fields (D : Dk) (n a : Int) (b : ByteArray) (c : Nat) : (manyK D n a b c).on = D.on ∧ (manyK D n a b c).room = D.room ∧ (manyK D n a b c).table = D.table ∧ (manyK D n a b c).words = D.words ∧ (manyK D n a b c).last = D.last ∧ (manyK D n a b c).armed = D.armed ∧ (manyK D n a b c).left = D.left ∧ (manyK D n a b c).stays = D.stays ∧ (manyK D n a b c).lasts = D.lasts := by
  induction c with
  | zero => exact ⟨rfl, rfl, rfl, rfl, rfl, rfl, rfl, rfl, rfl⟩
  | succ c ih => exact ih
theorem many_now (D : Dk) (n a : Int) (b : ByteArray) (c : Nat) (x : Int) : (manyK D n a b c).now x = if a ≤ x ∧ x < a + (c : Int) then some (sect b (x - a).toNat) else D.now x := by
  induction c with
  | zero => rw [if_neg (by omega)]; rfl
  | succ c ih =>
    show putF (manyK D n a b c).now (a + (c : Int)) (sect b c) x = _
    by_cases hx : x = a + (c : Int)
    · subst hx
      rw [putF_same, if_pos (by omega)]
      congr 2
      omega
    · rw [putF_other _ _ hx, ih]
      by_cases h1 : a ≤ x ∧ x < a + (c : Int)
      · rw [if_pos h1, if_pos (by omega)]
      · rw [if_neg h1, if_neg (by omega)]
theorem readS_congr {k : Nat} (h : ∀ i : Nat, i < k → D.now (a + (i : Int)) = D'.now (a + (i : Int))) : readS D a k = readS D' a k := by
  induction k with
  | zero => rfl
  | succ k ih => unfold readS; rw [ih (fun i hi => h i (by omega)), h k (by omega)]
theorem readS_add (D : Dk) (a : Int) (k m : Nat) : readS D a (k + m) = readS D a k ++ readS D (a + (k : Int)) m := by
  induction m with
  | zero => simp [readS]
  | succ m ih =>
    show readS D a (k + m) ++ _ = _ ++ (readS D (a + (k : Int)) m ++ _)
    rw [ih, List.append_assoc, show a + ((k.add m : Nat) : Int) = a + (k : Int) + (m : Int) by rw [show k.add m = k + m from rfl]; omega]
theorem sect_list (b : ByteArray) (k : Nat) : (sect b k).data.toList = (b.data.toList.drop (k * 64)).take 64 := by
  unfold sect
  rw [ByteArray.data_extract, Array.toList_extract, List.extract_eq_take_drop]
  congr 1
  omega
theorem read_many_take (D : Dk) (n a : Int) (b : ByteArray) (c k : Nat) (hk : k ≤ c) (hb : b.size = 64 * c) : readS (manyK D n a b c) a k = b.data.toList.take (64 * k) := by
  induction k with
  | zero => simp [readS]
  | succ k ih =>
    unfold readS
    rw [ih (by omega), many_now, if_pos (by omega)]
    rw [show (a + (k : Int) - a).toNat = k by omega]
    simp only [Option.getD_some]
    rw [sect_list, show 64 * (k + 1) = 64 * k + 64 by omega, List.take_add, Nat.mul_comm k 64]
theorem read_many (D : Dk) (n a : Int) (b : ByteArray) (c : Nat) (hb : b.size = 64 * c) : readS (manyK D n a b c) a c = b.data.toList := by
  rw [read_many_take D n a b c c (Nat.le_refl _) hb]
  exact List.take_of_length_le (by rw [Array.length_toList]; exact Nat.le_of_eq hb)
theorem read_far (D : Dk) (n a x : Int) (b : ByteArray) (c k : Nat) (h : x + (k : Int) ≤ a ∨ a + (c : Int) ≤ x) : readS (manyK D n a b c) x k = readS D x k :=
  readS_congr fun i hi => by rw [many_now, if_neg (by omega)]
theorem argB_iff (b : ByteArray) : argB b = true ↔ 64 ≤ b.size ∧ b.size / 64 ≤ 16 ∧ b.size % 64 = 0 := by unfold argB; simp; omega
theorem write_good (h1 : D.on = true) (h2 : inNode n = true) (h3 : D.armed = false) (h4 : D.table n = e) (h5 : e ≠ 0) {c : Nat} (hb : b.size = 64 * c) (hc : 1 ≤ c ∧ c ≤ 16) (ha : 0 ≤ a ∧ a + (c : Int) ≤ D.room) :
    writeE D n e a b = 0 ∧ writeK D n e a b = manyK D n a b c := by
  have m1 : mayK D n = 0 := by unfold mayK; rw [h1, h2]; rfl
  have m2 : argB b = true := (argB_iff b).2 (by omega)
  have m3 : admK D n e = 0 := by unfold admK; rw [h4]; simp [h5]
  have hq : b.size / 64 = c := by omega
  have m4 : thereK D a ((b.size / 64 : Nat) : Int) = true := by unfold thereK; rw [hq]; simp; omega
  obtain ⟨g1, g2⟩ := goes_un h3
  constructor
  · unfold writeE; rw [if_pos m1, if_pos m2, if_pos m3, m4, g1]; rfl
  · unfold writeK; rw [if_pos ⟨m1, m2, m3, m4⟩, g1, g2, hq]; rfl
theorem admit_good (h1 : D.on = true) (h2 : inNode n = true) (h3 : D.armed = false) (h4 : D.last < e) : admitE D n e = 0 ∧ admitK D n e = { D with table := updF D.table n e, last := e } := by
  have m1 : mayK D n = 0 := by unfold mayK; rw [h1, h2]; rfl
  obtain ⟨g1, g2⟩ := goes_un h3
  constructor
  · unfold admitE; rw [if_pos m1, if_neg (by omega), g1]; rfl
  · unfold admitK; rw [if_pos ⟨m1, by omega⟩, g1, g2]; rfl
theorem barrier_good (h1 : D.on = true) (h2 : inNode n = true) (h3 : D.armed = false) (h4 : D.table n = e) (h5 : e ≠ 0) : barrierE D n e = 0 ∧ barrierK D n e = settleK D n := by
  have m1 : mayK D n = 0 := by unfold mayK; rw [h1, h2]; rfl
  have m3 : admK D n e = 0 := by unfold admK; rw [h4]; simp [h5]
  obtain ⟨g1, g2⟩ := goes_un h3
  constructor
  · unfold barrierE; rw [if_pos m1, if_pos m3, g1]; rfl
  · unfold barrierK; rw [if_pos ⟨m1, m3⟩, g1, g2]; rfl
theorem fence_good (h1 : D.on = true) (h2 : inNode n = true) (h3 : D.armed = false) : fenceE D n = 0 ∧ fenceK D n = { settleK D n with table := updF D.table n 0 } := by
  have m1 : mayK D n = 0 := by unfold mayK; rw [h1, h2]; rfl
  obtain ⟨g1, g2⟩ := goes_un h3
  constructor
  · unfold fenceE; rw [if_pos m1, g1]; rfl
  · unfold fenceK; rw [if_pos m1, g1, g2]; rfl
theorem put_good (h1 : D.on = true) (h2 : inNode n = true) (h3 : D.armed = false) (v : Int) : fenceE D n = 0 ∧ putK D n v = { D with words := updF D.words n v } := by
  have m1 : mayK D n = 0 := by unfold mayK; rw [h1, h2]; rfl
  obtain ⟨g1, g2⟩ := goes_un h3
  constructor
  · unfold fenceE; rw [if_pos m1, g1]; rfl
  · unfold putK; rw [if_pos m1, g1, g2]; rfl
theorem read_good (h1 : D.on = true) {k : Nat} (hk : 1 ≤ k ∧ k ≤ 400) (ha : 0 ≤ a ∧ a + (k : Int) ≤ D.room) : readE D a (k : Int) = 0 ∧ readT D a (k : Int) = ⟨(readS D a k).toArray⟩ := by
  have hr : readB D a (k : Int) = true := by unfold readB thereK; simp; omega
  have m : readE D a (k : Int) = 0 := by unfold readE; rw [h1, hr]; rfl
  exact ⟨m, by unfold readT; rw [if_pos m]; simp⟩
theorem arr_list (b : ByteArray) : (⟨b.data.toList.toArray⟩ : ByteArray) = b := by cases b; rfl
theorem sect_one (h : b.size = 64) : sect b 0 = b := by
  unfold sect
  apply ByteArray.ext
  rw [ByteArray.data_extract]
  apply Array.ext'
  rw [Array.toList_extract, List.extract_eq_take_drop]
  simp
  exact List.take_of_length_le (by rw [Array.length_toList]; exact Nat.le_of_eq h)
/-- One sector is written. -/
theorem write_one (h1 : D.on = true) (h2 : inNode n = true) (h3 : D.armed = false) (h4 : D.table n = e) (h5 : e ≠ 0) (hb : b.size = 64) (ha : 0 ≤ a) (ha2 : a + 1 ≤ (D.room : Int)) :
    writeE D n e a b = 0 ∧ writeK D n e a b = oneK D n a b := by
  have h := write_good (c := 1) h1 h2 h3 h4 h5 (by omega) (by omega) ⟨ha, by omega⟩
  refine ⟨h.1, h.2.trans ?_⟩
  show oneK D n (a + ((0 : Nat) : Int)) (sect b 0) = _
  rw [sect_one hb, show a + ((0 : Nat) : Int) = a by omega]
/-- One sector is read. -/
theorem read_one {s : ByteArray} (he : readE D a 1 = 0) (hs : (D.now a).getD zsec = s) : readE D a 1 = 0 ∧ readT D a 1 = s := by
  refine ⟨he, ?_⟩
  unfold readT
  rw [if_pos he]
  show (⟨(([] : List UInt8) ++ ((D.now (a + ((0 : Nat) : Int))).getD zsec).data.toList).toArray⟩ : ByteArray) = s
  rw [show a + ((0 : Nat) : Int) = a by omega, hs, List.nil_append]
theorem stays_row {w : World} {A : Option Addr} {m c : Nat} {z : List Int} (h : IsRow .i64 w A m c z) (i : Nat) : staysB (z.take m) i = (decide (i < m) && oddB (z.getD i 0)) := by
  have hl := h.len.2.2
  unfold staysB
  rw [List.length_take, Nat.min_eq_left hl]
  by_cases hi : i < m
  · rw [List.getD_eq_getElem?_getD, List.getD_eq_getElem?_getD, List.getElem?_take, if_pos hi]
  · simp [hi]
end
end Go.Proofs.Ytacogpogplionaa.DK
