/- commonsref1.Open, Read, Stamp. No condition. -/
import Derived.Test.YtooapgeokonlhaaSumAlive
import Derived.Test.YtooapgeokonlhaaBytes
import Derived.Laws.MakeOwn
import Derived.Deep.RegionHeld3
namespace Go.Proofs.Ytooapgeokonlhaa.SM
open Go.RowKit
set_option linter.unusedVariables false

theorem refopen_short (b : ByteArray) (hb : b.size < 4) (w : World) : Calls Try.prog 11 #[.string b] w fun e w' => e = .returned (.tuple #[.string ByteArray.empty, .int .i64 5]) ∧ w = w' := by
  go_enter Try.func11, Try.ntmps11
  go_wp2
  go_ret2
  exact ⟨rfl, rfl⟩
theorem fits_sym (a b : ByteArray) (v : Bool) (h : (a.toList == b.toList) = v) : (b.toList == a.toList) = v := by rw [← h, BEq.comm]
theorem refopen_bad (b : ByteArray) (hb : 4 ≤ b.size) (hs : b.size ≤ 1000000) (hf : fits b = false) (w : World) : Calls Try.prog 11 #[.string b] w fun e w' => e = .returned (.tuple #[.string ByteArray.empty, .int .i64 6]) ∧ Below w.heap.size w w' := by
  have h4 : (4 : Int) ≤ (b.size : Int) := by omega
  have hts : (b.extract 4 b.size).size = b.size - 4 := by simp
  obtain ⟨v, hv⟩ : ∃ v, sumT (b.extract 4 b.size) = v := ⟨_, rfl⟩
  have hbb := sumL_b (b.extract 4 b.size).data.toList
  have hof := fun W => refsum_any (b.extract 4 b.size) W (by rw [hts]; unfold maxLen; omega)
  unfold fits headT tailT at hf
  have hf2 := fits_sym _ _ _ hf
  rw [show sumL (b.extract 4 b.size).data.toList = v from hv] at hbb
  simp only [show sumL (b.extract 4 b.size).data.toList = v from hv] at hof
  rw [hv] at hf hf2
  clear hv
  go_enter Try.func11, Try.ntmps11
  go_wp2_with fail
  go_region_held3 (fun _ => True) (trivial) (first
    | (go_at_call 17; refine (hof _).mono ?_; rintro e w' ⟨rfl, rfl⟩)
    | (go_at_call 24; refine (WI.reffour_any _ hbb.1 hbb.2 _).mono ?_; rintro e w2 ⟨rfl, hw2⟩))
  go_wp2_with fail
  go_ret2
  exact ⟨rfl, belowThen (belowDrew (belowSame _)) hw2⟩
theorem refopen_ok (b : ByteArray) (hb : 4 ≤ b.size) (hs : b.size ≤ 1000000) (hf : fits b = true) (w : World) : Calls Try.prog 11 #[.string b] w fun e w' => e = .returned (.tuple #[.string (tailT b), .int .i64 0]) ∧ Below w.heap.size w w' := by
  have h4 : (4 : Int) ≤ (b.size : Int) := by omega
  have hts : (b.extract 4 b.size).size = b.size - 4 := by simp
  obtain ⟨v, hv⟩ : ∃ v, sumT (b.extract 4 b.size) = v := ⟨_, rfl⟩
  have hbb := sumL_b (b.extract 4 b.size).data.toList
  have hof := fun W => refsum_any (b.extract 4 b.size) W (by rw [hts]; unfold maxLen; omega)
  unfold fits headT tailT at hf
  have hf2 := fits_sym _ _ _ hf
  rw [show sumL (b.extract 4 b.size).data.toList = v from hv] at hbb
  simp only [show sumL (b.extract 4 b.size).data.toList = v from hv] at hof
  rw [hv] at hf hf2
  clear hv
  go_enter Try.func11, Try.ntmps11
  go_wp2_with fail
  go_region_held3 (fun _ => True) (trivial) (first
    | (go_at_call 17; refine (hof _).mono ?_; rintro e w' ⟨rfl, rfl⟩)
    | (go_at_call 24; refine (WI.reffour_any _ hbb.1 hbb.2 _).mono ?_; rintro e w2 ⟨rfl, hw2⟩))
  go_wp2_with fail
  go_ret2
  exact ⟨rfl, belowThen (belowDrew (belowSame _)) hw2⟩
theorem refread_short (b : ByteArray) (hb : b.size < 4) (w : World) : Calls Try.prog 13 #[.string b] w fun e w' => e = .returned (.tuple #[.string ByteArray.empty, .int .i64 5]) ∧ w = w' := by
  go_enter Try.func13, Try.ntmps13
  go_wp2
  go_ret2
  exact ⟨rfl, rfl⟩
def RefReadOut (b : ByteArray) (m : Nat) (w : World) (e : Ending) (w' : World) : Prop := e = .returned (if fitsR b = true then .tuple #[.string (b.extract 0 m), .int .i64 0] else .tuple #[.string ByteArray.empty, .int .i64 6]) ∧ Below w.heap.size w w'
theorem refread_any (b : ByteArray) (m : Nat) (hb : b.size = m + 4) (hs : b.size ≤ 1000000) (w : World) : Calls Try.prog 13 #[.string b] w (RefReadOut b m w) := by
  have h4 : (b.size : Int) - 4 = (m : Int) := by omega
  have h5 : ¬ (b.size : Int) < 4 := by omega
  have hm0 : (0 : Int) ≤ (m : Int) := by omega
  have hm1 : (m : Int) ≤ (b.size : Int) := by omega
  have hts : (b.extract 0 m).size = m := by simp; omega
  obtain ⟨v, hv⟩ : ∃ v, sumT (b.extract 0 m) = v := ⟨_, rfl⟩
  have hbb := sumL_b (b.extract 0 m).data.toList
  have hof := fun W => refsum_any (b.extract 0 m) W (by rw [hts]; unfold maxLen; omega)
  obtain ⟨q, hf⟩ : ∃ q, fitsR b = q := ⟨_, rfl⟩
  have HF := Lib.hid hf
  unfold fitsR backT frontT at hf
  rw [show b.size - 4 = m by omega] at hf
  have hf2 := fits_sym _ _ _ hf
  rw [show sumL (b.extract 0 m).data.toList = v from hv] at hbb
  simp only [show sumL (b.extract 0 m).data.toList = v from hv] at hof
  rw [hv] at hf hf2
  have HB := Lib.hid hb
  clear hv hb hts
  cases q
  · go_enter Try.func13, Try.ntmps13
    go_wp2_with fail
    go_region_held3 (fun _ => True) (trivial) (first
      | (go_at_call 17; refine (hof _).mono ?_; rintro e w' ⟨rfl, rfl⟩)
      | (go_at_call 24; refine (WI.reffour_any _ hbb.1 hbb.2 _).mono ?_; rintro e w2 ⟨rfl, hw2⟩))
    go_wp2_with fail
    go_ret2
    exact ⟨by rw [HF.out]; rfl, belowThen (belowDrew (belowSame _)) hw2⟩
  · go_enter Try.func13, Try.ntmps13
    go_wp2_with fail
    go_region_held3 (fun _ => True) (trivial) (first
      | (go_at_call 17; refine (hof _).mono ?_; rintro e w' ⟨rfl, rfl⟩)
      | (go_at_call 24; refine (WI.reffour_any _ hbb.1 hbb.2 _).mono ?_; rintro e w2 ⟨rfl, hw2⟩))
    go_wp2_with fail
    go_ret2
    exact ⟨by rw [HF.out]; rfl, belowThen (belowDrew (belowSame _)) hw2⟩
theorem refstamp_arg (s : ByteArray) (n : Int) (h : n < 4 ∨ 60000 < n) (w : World) : Calls Try.prog 15 #[.string s, .int .i64 n] w fun e w' => e = .returned (.tuple #[.string ByteArray.empty, .int .i64 1]) ∧ w = w' := by
  by_cases h1 : n < 4
  · go_enter Try.func15, Try.ntmps15
    go_wp2
    go_ret2
    exact ⟨rfl, rfl⟩
  · have h2 : 60000 < n := by omega
    go_enter Try.func15, Try.ntmps15
    go_wp2
    go_ret2
    exact ⟨rfl, rfl⟩
theorem refstamp_long (s : ByteArray) (n : Int) (h1 : ¬ n < 4) (h2 : ¬ 60000 < n) (h3 : n - 4 < (s.size : Int)) (w : World) : Calls Try.prog 15 #[.string s, .int .i64 n] w fun e w' => e = .returned (.tuple #[.string ByteArray.empty, .int .i64 2]) ∧ w = w' := by
  go_enter Try.func15, Try.ntmps15
  go_wp2
  go_ret2
  exact ⟨rfl, rfl⟩
theorem infoU8 : (Try.prog.info? 5).map (fun i => (i.zero, i.size, i.bytes)) = some (some (.int .u8 0), 1, 1) := by kernel_rfl
theorem refstamp_ok (s : ByteArray) (n : Nat) (h1 : 4 ≤ n) (h2 : n ≤ 60000) (h3 : s.size ≤ n - 4) (w : World) : Calls Try.prog 15 #[.string s, .int .i64 (n : Int)] w fun e w' => e = .returned (.tuple #[.string (stampT s n), .int .i64 0]) ∧ Below w.heap.size w w' := by
  obtain ⟨k, hk⟩ : ∃ k : Nat, n - 4 - s.size = k := ⟨_, rfl⟩
  have hk2 : (n : Int) - 4 - (s.size : Int) = (k : Int) := by omega
  obtain ⟨i0, hi, hz0, hz1, hz2⟩ := info_parts infoU8
  have hcells : ∀ W : World, Cells (W.alloc (.cells (madeCells (Value.int .u8 0).cells (k * 1)) 5)) W.heap.size (List.replicate k 0) := fun W => by
    refine ⟨by simp, fun j x hx => ?_⟩
    have hb : Blk (W.alloc (.cells (madeCells (Value.int .u8 0).cells (k * 1)) 5)) W.heap.size 5 (madeCells (Value.int .u8 0).cells (k * 1)) := Blk.new _ _ _
    refine ⟨?_, hb.frozen j⟩
    rw [hb.cell]
    have hj : j < k := by
      rcases Nat.lt_or_ge j k with h | h
      · exact h
      · rw [List.getElem?_eq_none (by simpa using h)] at hx; cases hx
    rw [List.getElem?_replicate, if_pos hj] at hx
    injection hx with hx
    subst hx
    simp [madeCells, hj, Value.cells, Nat.mod_one]
  have hmk : ∀ W : World, (Instr.makeSlice 37 (.int .i64 (k : Int)) (.int .i64 (k : Int))).run Try.prog W = .ok (.slice (some ⟨W.heap.size, 0, none⟩) k k) (W.alloc (.cells (madeCells (Value.int .u8 0).cells (k * 1)) 5)) := fun W => by
    have hr := run_make (P := Try.prog) W 37 5 i0 (.int .u8 0) Try.underlying37 hi hz0 .i64 .i64 (k : Int) (k : Int) (by omega) (by omega) (by rw [hz2]; omega) (by omega)
    rw [hz1] at hr
    simp only [Int.toNat_natCast] at hr
    exact hr
  have hcv : ∀ W : World, (convert 37 9 (.slice (some ⟨W.heap.size, 0, none⟩) k k)).run Try.prog (W.alloc (.cells (madeCells (Value.int .u8 0).cells (k * 1)) 5)) = .ok (.string (zerosT k)) (W.alloc (.cells (madeCells (Value.int .u8 0).cells (k * 1)) 5)) := fun W => by
    have := (hcells W).str (P := Try.prog) 37 9 5 Try.underlying37 Try.underlying5 Try.underlying9 k k (by simp)
    rw [this]
    congr 2
    unfold zerosT
    have e : Lib.repeatL [0] k = List.replicate k 0 := by
      have := Lib.repeatL_replicate 0 1 k
      simpa using this
    rw [e]
  generalize hM : madeCells (Value.int .u8 0).cells (k * 1) = M at hmk hcv
  have hsz := zerosT_size k
  obtain ⟨p, hp⟩ : ∃ p, s ++ zerosT k = p := ⟨_, rfl⟩
  have hps : p.size = s.size + k := by rw [← hp]; simp [hsz]
  have hpl : p.size ≤ 60000 := by omega
  have hbb := sumL_b p.data.toList
  have hpad : stampT s n = p ++ WI.fourT (sumT p) := by unfold stampT padT; rw [hk, hp]
  have hfz := fourT_size (sumL p.data.toList)
  have hkb : k ≤ 60000 := by omega
  have hsb : s.size ≤ 60000 := by omega
  have hadd : ¬ 9223372036854775807 < s.size + k := by omega
  have hadd2 : ¬ 9223372036854775807 < s.size + (zerosT k).size := by omega
  have HP := Lib.hid hpad
  have HK := Lib.hid hk
  have HPS := Lib.hid hps
  have c1 : ¬ (n : Int) < 4 := by omega
  have c2 : ¬ (60000 : Int) < (n : Int) := by omega
  have c3 : ¬ (n : Int) - 4 < (s.size : Int) := by omega
  clear hk hpad hps hi hz0 hz1 hz2 hcells hM hsz
  go_enter Try.func15, Try.ntmps15
  go_wp2_with (first
    | (go_at_call 17; refine (refsum_any p _ (by unfold maxLen; omega)).mono ?_; rintro e w' ⟨rfl, rfl⟩)
    | (go_at_call 24; refine (WI.reffour_any _ hbb.1 hbb.2 _).mono ?_; rintro e w2 ⟨rfl, hw2⟩))
  go_ret2
  exact ⟨by rw [HP.out]; rfl, belowThen (belowNew (belowSame _) _) hw2⟩
end Go.Proofs.Ytooapgeokonlhaa.SM
