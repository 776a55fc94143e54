/- rec: what Get takes together; plain laws. No condition. -/
import Derived.Test.YtmfbggdoejcpiaaRec6
namespace Go.Proofs.Ytmfbggdoejcpiaa.RC
open Go.RowKit Go.Proofs.Ytmfbggdoejcpiaa.WI Go.Proofs.Ytmfbggdoejcpiaa.SM
set_option linter.unusedVariables false
set_option linter.unusedSimpArgs false

/-- What stands in sector k ahead of its stamp, behind its label. -/
def frontK (e l : Int) (n : Nat) (B : ByteArray) (k : Nat) : ByteArray := padT (labelT e l (k : Int) (n : Int) ++ partT B k) 64
def contK (e l : Int) (n : Nat) (B : ByteArray) (k : Nat) : ByteArray := (frontK e l n B k).extract 18 60
def allK (e l : Int) (n : Nat) (B : ByteArray) : Nat → ByteArray
  | 0 => ⟨#[]⟩
  | k + 1 => allK e l n B k ++ contK e l n B k
section
variable {e l : Int} {n : Nat} {B : ByteArray}
theorem lab_part (k : Nat) : (labelT e l (k : Int) (n : Int) ++ partT B k).size ≤ 60 := by
  rw [ByteArray.size_append, labelT_size]
  have := partT_size B k
  omega
theorem secT_front (k : Nat) : (secT e l n B k).extract 0 60 = frontK e l n B k := stamp_front _ 64 60 (by omega) (lab_part k)
theorem secT_fits (k : Nat) : fitsR (secT e l n B k) = true := fitsR_stamp _ 64 60 (by omega) (lab_part k)
theorem zerosT_data (k : Nat) : (zerosT k).data.toList = List.replicate k 0 := by
  show (Lib.repeatL [0] k : List UInt8) = _
  induction k with
  | zero => rfl
  | succ k ih => show ([0] : List UInt8) ++ Lib.repeatL [0] k = _; rw [ih]; rfl
theorem frontK_data (k : Nat) : (frontK e l n B k).data.toList = (labelT e l (k : Int) (n : Int)).data.toList ++ ((partT B k).data.toList ++ List.replicate (60 - (18 + (partT B k).size)) 0) := by
  unfold frontK padT
  rw [app_dat, app_dat, zerosT_data, ByteArray.size_append, labelT_size, List.append_assoc]
theorem lab_len (k : Nat) : (labelT e l (k : Int) (n : Int)).data.toList.length = 18 := by
  rw [Array.length_toList]; exact labelT_size _ _ _ _
theorem frontK_size (k : Nat) : (frontK e l n B k).size = 60 := by
  unfold frontK padT
  have := lab_part (e := e) (l := l) (n := n) (B := B) k
  rw [ByteArray.size_append, zerosT_size]
  omega
theorem frontK_lab (k : Nat) : (frontK e l n B k).extract 0 18 = labelT e l (k : Int) (n : Int) := by
  apply ByteArray.ext
  apply Array.ext'
  rw [ByteArray.data_extract, Array.toList_extract, List.extract_eq_take_drop, frontK_data, Nat.sub_zero, List.drop_zero, List.take_left' (lab_len k)]
theorem contK_data (k : Nat) : (contK e l n B k).data.toList = (partT B k).data.toList ++ List.replicate (42 - (partT B k).size) 0 := by
  unfold contK
  have hp := partT_size B k
  have hpl : (partT B k).data.toList.length = (partT B k).size := Array.length_toList
  rw [ByteArray.data_extract, Array.toList_extract, List.extract_eq_take_drop, frontK_data, List.drop_left' (lab_len k), List.take_of_length_le (by rw [List.length_append, List.length_replicate, hpl]; omega)]
  rw [show 60 - (18 + (partT B k).size) = 42 - (partT B k).size by omega]
theorem partT_data (k : Nat) : (partT B k).data.toList = (B.data.toList.drop (42 * k)).take 42 := by
  unfold partT
  rw [ByteArray.data_extract, Array.toList_extract, List.extract_eq_take_drop]
  have hl : B.data.toList.length = B.size := Array.length_toList
  by_cases h : 42 * (k + 1) ≤ B.size
  · congr 1; omega
  · rw [List.take_of_length_le (by rw [List.length_drop, hl]; omega), List.take_of_length_le (by rw [List.length_drop, hl]; omega)]
theorem allK_data (m : Nat) (hm : 42 * m < B.size + 42) : ∀ k, k ≤ m → (allK e l n B k).data.toList = (B.data.toList ++ List.replicate 42 0).take (42 * k) := by
  intro k
  induction k with
  | zero => intro _; rfl
  | succ k ih =>
    intro hk
    have hl : B.data.toList.length = B.size := Array.length_toList
    show (allK e l n B k ++ contK e l n B k).data.toList = _
    rw [app_dat, ih (by omega), contK_data, partT_data, show 42 * (k + 1) = 42 * k + 42 by omega, List.take_add, List.drop_append_of_le_length (by omega)]
    congr 1
    rw [List.take_append, List.length_drop, hl, List.take_replicate]
    congr 2
    unfold partT
    rw [ByteArray.size_extract]
    omega
theorem allK_size (k : Nat) : (allK e l n B k).size = 42 * k := by
  induction k with
  | zero => rfl
  | succ k ih =>
    show (allK e l n B k ++ contK e l n B k).size = _
    rw [ByteArray.size_append, ih]
    unfold contK
    rw [ByteArray.size_extract, frontK_size]
    omega
end
theorem bodyK_at {xs : List Im} (hg : Good xs) {n : Nat} (hn : n ≤ xs.length) : ∀ i, i < n → ((bodyK xs n).data.toList.drop (108 * i)).take 108 = (recT (xs.getD i im0)).data.toList := by
  induction n with
  | zero => intro i hi; omega
  | succ n ih =>
    intro i hi
    have hl : (bodyK xs n).data.toList.length = 108 * n := by rw [Array.length_toList]; exact bodyK_size hg (by omega)
    have hr : (recT (xs.getD i im0)).data.toList.length = 108 := by
      rw [Array.length_toList]
      show (recT _).size = 108
      unfold recT
      rw [ByteArray.size_append, numsT_size, (hg.at_ (show i < xs.length by omega)).2.2.1]
    show ((bodyK xs n ++ recT (xs.getD n im0)).data.toList.drop (108 * i)).take 108 = _
    rw [app_dat]
    by_cases e : i = n
    · subst e
      rw [List.drop_left' hl, List.take_of_length_le (by omega)]
    · rw [List.drop_append_of_le_length (by omega), List.take_append_of_le_length (by rw [List.length_drop]; omega), ih (by omega) i (by omega)]
/-- Behind the last sector each image stands at its place. -/
theorem all_at {e l : Int} {xs : List Im} (hg : Good xs) (m : Nat) (hm : 42 * m < 108 * xs.length + 42) (hm2 : 108 * xs.length ≤ 42 * m) (i : Nat) (hi : i < xs.length) :
    (allK e l xs.length (bodyK xs xs.length) m).extract (108 * i) (108 * (i + 1)) = recT (xs.getD i im0) := by
  have hbs := bodyK_size hg (k := xs.length) (Nat.le_refl _)
  have hl : (bodyK xs xs.length).data.toList.length = 108 * xs.length := by rw [Array.length_toList]; exact hbs
  apply ByteArray.ext
  apply Array.ext'
  rw [ByteArray.data_extract, Array.toList_extract, List.extract_eq_take_drop, allK_data m (by omega) m (Nat.le_refl _), show 108 * (i + 1) - 108 * i = 108 by omega, List.drop_take, List.take_take, show min 108 (42 * m - 108 * i) = 108 by omega, List.drop_append_of_le_length (by omega), List.take_append_of_le_length (by rw [List.length_drop]; omega), bodyK_at hg (Nat.le_refl _) i hi]
/-- The sectors of a record's bytes. -/
theorem putK_at (e l : Int) (n : Nat) (B : ByteArray) (m : Nat) : ∀ k, k < m → ((putK e l n B m).data.toList.drop (64 * k)).take 64 = (secT e l n B k).data.toList := by
  induction m with
  | zero => intro k hk; omega
  | succ m ih =>
    intro k hk
    have hl : (putK e l n B m).data.toList.length = 64 * m := by rw [Array.length_toList]; exact putK_size _ _ _ _ _
    have hr : (secT e l n B k).data.toList.length = 64 := by rw [Array.length_toList]; exact secT_size _ _ _ _ _
    show ((putK e l n B m ++ secT e l n B m).data.toList.drop (64 * k)).take 64 = _
    rw [app_dat]
    by_cases h : k = m
    · subst h; rw [List.drop_left' hl, List.take_of_length_le (by omega)]
    · rw [List.drop_append_of_le_length (by omega), List.take_append_of_le_length (by rw [List.length_drop]; omega), ih k (by omega)]
theorem ext_ext (b : ByteArray) (m k : Nat) (hk : k < m) (P : ByteArray) (h : b.extract 0 (64 * m) = P) : (b.extract (64 * k) (64 * (k + 1))).data.toList = (P.data.toList.drop (64 * k)).take 64 := by
  rw [← h]
  rw [ByteArray.data_extract, ByteArray.data_extract, Array.toList_extract, Array.toList_extract, List.extract_eq_take_drop, List.extract_eq_take_drop, Nat.sub_zero, List.drop_zero, List.drop_take, List.take_take, show 64 * (k + 1) - 64 * k = 64 by omega, show min 64 (64 * m - 64 * k) = 64 by omega]
theorem sector_at (b : ByteArray) (e l : Int) (n : Nat) (B : ByteArray) (m k : Nat) (hk : k < m) (h : b.extract 0 (64 * m) = putK e l n B m) : b.extract (64 * k) (64 * (k + 1)) = secT e l n B k := by
  apply ByteArray.ext
  apply Array.ext'
  rw [ext_ext b m k hk _ h, putK_at _ _ _ _ _ _ hk]
theorem frontK_first (e l : Int) (n : Nat) (B : ByteArray) : ∃ R, (frontK e l n B 0).data.toList = U8 (lowB e 8) ++ (U8 (lowB l 8) ++ (U8 (lowB 0 1) ++ (U8 (lowB n 1) ++ R))) := by
  refine ⟨(partT B 0).data.toList ++ List.replicate (60 - (18 + (partT B 0).size)) 0, ?_⟩
  rw [frontK_data]
  unfold labelT
  rw [strOf_data, List.nil_append, U8_app, U8_app, U8_app]
  simp only [List.append_assoc]
  rfl
end Go.Proofs.Ytmfbggdoejcpiaa.RC
