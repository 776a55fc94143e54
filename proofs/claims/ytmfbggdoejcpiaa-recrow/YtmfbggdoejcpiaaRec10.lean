/- rec: heads read again; how many images a record has at most. No condition. -/
import Derived.Test.YtmfbggdoejcpiaaRec9
import Derived.Test.YtmfbggdoejcpiaaSumSet
namespace Go.Proofs.Ytmfbggdoejcpiaa.RC
open Go.RowKit Go.Proofs.Ytmfbggdoejcpiaa.WI Go.Proofs.Ytmfbggdoejcpiaa.SM
set_option linter.unusedVariables false
set_option linter.unusedSimpArgs false

theorem headT_size (e l a : Int) : (headT e l a).size = 64 := stampT_size _ _ (by omega) (by rw [headB_size]; omega)
theorem headT_fits (e l a : Int) : fitsR (headT e l a) = true := fitsR_stamp _ 64 60 rfl (by rw [headB_size]; omega)
theorem headT_front (e l a : Int) : (headT e l a).extract 0 60 = padT (headB e l a) 64 := stamp_front _ 64 60 rfl (by rw [headB_size]; omega)
theorem headB_data (e l a : Int) : (headB e l a).data.toList = [72, 69, 65, 68] ++ (U8 (lowB e 8) ++ (U8 (lowB l 8) ++ U8 (lowB a 4))) := by
  unfold headB
  rw [app_dat, strOf_data, U8_app, U8_app, List.nil_append, List.append_assoc]
theorem head_rest (e l a : Int) : ∃ R, (((headT e l a).extract 0 60).extract 4 60).data.toList = U8 (lowB e 8) ++ (U8 (lowB l 8) ++ (U8 (lowB a 4) ++ R)) := by
  refine ⟨(zerosT (64 - 4 - (headB e l a).size)).data.toList, ?_⟩
  rw [headT_front, SM.ext_data]
  unfold padT
  rw [app_dat, headB_data]
  have hz : (zerosT (64 - 4 - (headB e l a).size)).data.toList.length = 36 := by
    have h0 : (zerosT (64 - 4 - (headB e l a).size)).data.toList.length = (zerosT (64 - 4 - (headB e l a).size)).size := Array.length_toList
    rw [h0, zerosT_size, headB_size]
  have h1 : (U8 (lowB e 8)).length = 8 := by simp [U8, lowB_len]
  have h2 : (U8 (lowB l 8)).length = 8 := by simp [U8, lowB_len]
  have h3 : (U8 (lowB a 4)).length = 4 := by simp [U8, lowB_len]
  generalize (zerosT (64 - 4 - (headB e l a).size)).data.toList = Z at *
  have hd : ∀ Y : List UInt8, List.drop 4 ([72, 69, 65, 68] ++ Y) = Y := fun _ => rfl
  rw [List.append_assoc, hd, List.take_of_length_le (by simp [h1, h2, h3, hz])]
  simp [List.append_assoc]
set_option maxHeartbeats 8000000 in
theorem get_head (e l a : Int) (he : 0 < e ∧ e ≤ 18446744073709551615) (hl : 0 < l ∧ l ≤ 18446744073709551615) (ha : 0 ≤ a ∧ a ≤ 256) (w : World) :
    Calls Try.prog 15 #[.string (headT e l a)] w fun x w' => x = .returned (.tuple #[.agg #[.int .u64 e, .int .u64 l, .int .i64 a], .int .i64 0]) ∧ Below w.heap.size w w' := by
  have hsz := headT_size e l a
  have kr := fun W => read_ok (headT e l a) 60 hsz (by omega) (headT_fits e l a) W
  have kp := fun W => put_head e l a he hl ha W
  obtain ⟨R, hR⟩ := head_rest e l a
  obtain ⟨T, hT⟩ : ∃ T, headT e l a = T := ⟨_, rfl⟩
  rw [hT] at kr kp hsz hR ⊢
  obtain ⟨F, hF⟩ : ∃ F, T.extract 0 60 = F := ⟨_, rfl⟩
  have hfs : F.size = 60 := by rw [← hF, ByteArray.size_extract]; omega
  rw [hF] at kr hR
  obtain ⟨X, hX⟩ : ∃ X, F.extract 4 F.size = X := ⟨_, rfl⟩
  have hxs : X.size = 56 := by rw [← hX, ByteArray.size_extract]; omega
  rw [show (60 : Nat) = F.size from hfs.symm, hX] at hR
  have h4 : (4 : Int) ≤ (F.size : Int) := by omega
  obtain ⟨a1, a2, a3⟩ := rd_step hR (by omega) (by rw [show (256 : Nat) ^ 8 = 18446744073709551616 from rfl]; omega)
  obtain ⟨X1, hX1⟩ : ∃ X1, X.extract 8 X.size = X1 := ⟨_, rfl⟩
  rw [hX1] at a2
  obtain ⟨b1, b2, b3⟩ := rd_step a2 (by omega) (by rw [show (256 : Nat) ^ 8 = 18446744073709551616 from rfl]; omega)
  obtain ⟨X2, hX2⟩ : ∃ X2, X1.extract 8 X1.size = X2 := ⟨_, rfl⟩
  rw [hX2] at b2
  obtain ⟨c1, c2, c3⟩ := rd_step b2 (by omega) (by rw [show (256 : Nat) ^ 4 = 4294967296 from rfl]; omega)
  have z1 : X1.size ≤ 60 := by rw [← hX1, ByteArray.size_extract]; omega
  have z2 : X2.size ≤ 60 := by rw [← hX2, ByteArray.size_extract]; omega
  have kn := fun W => new_reader X (by omega) W
  have q1 : ∀ {W w : World} {B g : Nat}, Rd W B g X w → Calls Try.prog 28 #[.pointer (some ⟨g, 0, none⟩), .int .i64 8] w fun x w' => x = .returned (.int .u64 e) ∧ Rd W B g X1 w' ∧ Keeps (only g) w w' := fun h => by
    have := rnum_8 h a3 (by omega); rwa [a1, hX1] at this
  have q2 : ∀ {W w : World} {B g : Nat}, Rd W B g X1 w → Calls Try.prog 28 #[.pointer (some ⟨g, 0, none⟩), .int .i64 8] w fun x w' => x = .returned (.int .u64 l) ∧ Rd W B g X2 w' ∧ Keeps (only g) w w' := fun h => by
    have := rnum_8 h b3 (by omega); rwa [b1, hX2] at this
  have q3 : ∀ {W w : World} {B g : Nat}, Rd W B g X2 w → Calls Try.prog 28 #[.pointer (some ⟨g, 0, none⟩), .int .i64 4] w fun x w' => x = .returned (.int .u64 a) ∧ Rd W B g (X2.extract 4 X2.size) w' ∧ Keeps (only g) w w' := fun h => by
    have := rnum_4 h c3 (by omega); rwa [c1] at this
  have wa : IntKind.i64.wrap a = a := IntWalk.i64_in _ (by omega)
  generalize X2.extract 4 X2.size = X4 at q3
  have hs64 : (T.size : Int) = 64 := by omega
  clear hR a1 a2 a3 b1 b2 b3 c1 c2 c3 z1 z2 hX1 hX2 he hl ha hxs hF hT hfs hsz
  have hbn := Blk.new w 39 #[.int .u64 0, .int .u64 0, .int .i64 0]
  have hb0 := (Below.refl _ w).alloc (Nat.le_refl _) (.cells #[.int .u64 0, .int .u64 0, .int .i64 0] 39)
  have HBN := Lib.hid hbn
  have HB0 := Lib.hid hb0
  clear hbn hb0
  go_enter Try.func15, Try.ntmps15
  go_wp2_with (first
    | (go_at_call 23; refine (kr _).mono ?_; rintro x w1 ⟨rfl, hb1⟩; have HB1 := Lib.hid hb1; clear hb1)
    | (go_at_call 27; refine (kn _).mono ?_; rintro x w2 ⟨g, rfl, hr2⟩; have R0 := Lib.hid hr2; clear hr2)
    | (go_at_call 28; (with_reducible refine (q1 R0.out).mono ?_); rintro x w3 ⟨rfl, hr3, _⟩; have R1 := Lib.hid hr3; clear hr3 R0)
    | (go_at_call 28; (with_reducible refine (q2 R1.out).mono ?_); rintro x w4 ⟨rfl, hr4, _⟩; have R2 := Lib.hid hr4; clear hr4 R1)
    | (go_at_call 28; (with_reducible refine (q3 R2.out).mono ?_); rintro x w5 ⟨rfl, hr5, _⟩; have R3 := Lib.hid hr5; have HBX := Lib.hid (Blk.new w5 39 #[.int .u64 e, .int .u64 l, .int .i64 a]); clear hr5 R2)
    | (go_at_call 14; refine (kp _).mono ?_; rintro x w6 ⟨rfl, hb6⟩;
       have hx6 := HBX.out.below hb6 HBX.out.lt; have x0 : w6.cell? ⟨w5.heap.size, 0, none⟩ = some (.int .u64 e) := hx6.cell 0; have x1 : w6.cell? ⟨w5.heap.size, 1, none⟩ = some (.int .u64 l) := hx6.cell 1; have x2 : w6.cell? ⟨w5.heap.size, 2, none⟩ = some (.int .i64 a) := hx6.cell 2;
       have hB12 := HB1.out; have hB5 := hB12.trans (R3.out.2.1.mono hB12.size); have hB6 := (hB5.alloc hB5.size (.cells #[.int .u64 e, .int .u64 l, .int .i64 a] 39)).trans (hb6.mono (hB5.alloc hB5.size _).size); have br := HBN.out.below hB6 HBN.out.lt; have r0 : w6.cell? ⟨w.heap.size, 0, none⟩ = some (.int .u64 0) := br.cell 0; have r1 : w6.cell? ⟨w.heap.size, 1, none⟩ = some (.int .u64 0) := br.cell 1; have r2 : w6.cell? ⟨w.heap.size, 2, none⟩ = some (.int .i64 0) := br.cell 2; have f0 := br.frozen 0; have f1 := br.frozen 1; have f2 := br.frozen 2; have HBR := Lib.hid br; have HB6 := Lib.hid hB6; clear hb6 hx6 R3 hB12 hB5 hB6 br))
  have b4 := ((HBR.out.set_ 0 (.int .u64 e)).set_ 1 (.int .u64 l)).set_ 2 (.int .i64 a)
  have d0 : ((((w6.setCell ⟨w.heap.size, 0, none⟩ (.int .u64 e)).setCell ⟨w.heap.size, 1, none⟩ (.int .u64 l)).setCell ⟨w.heap.size, 2, none⟩ (.int .i64 a))).cell? ⟨w.heap.size, 0, none⟩ = some (.int .u64 e) := b4.cell 0
  have d1 : ((((w6.setCell ⟨w.heap.size, 0, none⟩ (.int .u64 e)).setCell ⟨w.heap.size, 1, none⟩ (.int .u64 l)).setCell ⟨w.heap.size, 2, none⟩ (.int .i64 a))).cell? ⟨w.heap.size, 1, none⟩ = some (.int .u64 l) := b4.cell 1
  have d2 : ((((w6.setCell ⟨w.heap.size, 0, none⟩ (.int .u64 e)).setCell ⟨w.heap.size, 1, none⟩ (.int .u64 l)).setCell ⟨w.heap.size, 2, none⟩ (.int .i64 a))).cell? ⟨w.heap.size, 2, none⟩ = some (.int .i64 a) := b4.cell 2
  have hA := HB0.out.trans (HB6.out.mono HB0.out.size)
  have hE : Below w.heap.size w ((((w6.setCell ⟨w.heap.size, 0, none⟩ (.int .u64 e)).setCell ⟨w.heap.size, 1, none⟩ (.int .u64 l)).setCell ⟨w.heap.size, 2, none⟩ (.int .i64 a))) := ((hA.setCell (p := ⟨w.heap.size, 0, none⟩) (Nat.le_refl _) _).setCell (p := ⟨w.heap.size, 1, none⟩) (Nat.le_refl _) _).setCell (p := ⟨w.heap.size, 2, none⟩) (Nat.le_refl _) _
  exact bodyPost_ret (v := .tuple #[.agg #[.int .u64 e, .int .u64 l, .int .i64 a], .int .i64 0]) (by simp [results, Try.results15, go_sem, d0, d1, d2]) rfl ⟨rfl, hE⟩
set_option maxHeartbeats 4000000 in
/-- A head of which a byte is another one is none. -/
theorem get_head_bad (b : ByteArray) (hsz : b.size = 64) (hf : fitsR b = false) (w : World) :
    Calls Try.prog 15 #[.string b] w fun x w' => x = .returned (.tuple #[.agg #[.int .u64 0, .int .u64 0, .int .i64 0], .int .i64 6]) ∧ Below w.heap.size w w' := by
  have kr := fun W => read_bad b 60 hsz (by omega) hf W
  have hs64 : (b.size : Int) = 64 := by omega
  clear hf hsz
  have hbn := Blk.new w 39 #[.int .u64 0, .int .u64 0, .int .i64 0]
  have hb0 := (Below.refl _ w).alloc (Nat.le_refl _) (.cells #[.int .u64 0, .int .u64 0, .int .i64 0] 39)
  have HBN := Lib.hid hbn
  have HB0 := Lib.hid hb0
  clear hbn hb0
  go_enter Try.func15, Try.ntmps15
  go_wp2_with (go_at_call 23; refine (kr _).mono ?_; rintro x w1 ⟨rfl, hb1⟩; have br := HBN.out.below hb1 HBN.out.lt; have r0 : w1.cell? ⟨w.heap.size, 0, none⟩ = some (.int .u64 0) := br.cell 0; have r1 : w1.cell? ⟨w.heap.size, 1, none⟩ = some (.int .u64 0) := br.cell 1; have r2 : w1.cell? ⟨w.heap.size, 2, none⟩ = some (.int .i64 0) := br.cell 2; have f0 := br.frozen 0; have f1 := br.frozen 1; have f2 := br.frozen 2; have HBR := Lib.hid br; have HB1 := Lib.hid hb1; clear hb1 br)
  have b4 := ((HBR.out.set_ 0 (.int .u64 0)).set_ 1 (.int .u64 0)).set_ 2 (.int .i64 0)
  have d0 : ((((w1.setCell ⟨w.heap.size, 0, none⟩ (.int .u64 0)).setCell ⟨w.heap.size, 1, none⟩ (.int .u64 0)).setCell ⟨w.heap.size, 2, none⟩ (.int .i64 0))).cell? ⟨w.heap.size, 0, none⟩ = some (.int .u64 0) := b4.cell 0
  have d1 : ((((w1.setCell ⟨w.heap.size, 0, none⟩ (.int .u64 0)).setCell ⟨w.heap.size, 1, none⟩ (.int .u64 0)).setCell ⟨w.heap.size, 2, none⟩ (.int .i64 0))).cell? ⟨w.heap.size, 1, none⟩ = some (.int .u64 0) := b4.cell 1
  have d2 : ((((w1.setCell ⟨w.heap.size, 0, none⟩ (.int .u64 0)).setCell ⟨w.heap.size, 1, none⟩ (.int .u64 0)).setCell ⟨w.heap.size, 2, none⟩ (.int .i64 0))).cell? ⟨w.heap.size, 2, none⟩ = some (.int .i64 0) := b4.cell 2
  have hA := HB0.out.trans (HB1.out.mono HB0.out.size)
  have hE : Below w.heap.size w ((((w1.setCell ⟨w.heap.size, 0, none⟩ (.int .u64 0)).setCell ⟨w.heap.size, 1, none⟩ (.int .u64 0)).setCell ⟨w.heap.size, 2, none⟩ (.int .i64 0))) := ((hA.setCell (p := ⟨w.heap.size, 0, none⟩) (Nat.le_refl _) _).setCell (p := ⟨w.heap.size, 1, none⟩) (Nat.le_refl _) _).setCell (p := ⟨w.heap.size, 2, none⟩) (Nat.le_refl _) _
  exact bodyPost_ret (v := .tuple #[.agg #[.int .u64 0, .int .u64 0, .int .i64 0], .int .i64 6]) (by simp [results, Try.results15, go_sem, d0, d1, d2]) rfl ⟨rfl, hE⟩
/-- How many images a record of a log of so many places may have: what the code counts. -/
def mostUp (h : Int) : Nat → Nat → Nat
  | 0, n => n
  | f + 1, n => if n < 60 ∧ secsI ((n : Int) + 1) ≤ h then mostUp h f (n + 1) else n
def mostN (log : Int) : Nat := mostUp ((log - 1) / 2) 60 0
theorem mostUp_facts (h : Int) : ∀ (f n : Nat), 60 ≤ f + n → n ≤ 60 → (n = 0 ∨ secsI (n : Int) ≤ h) →
    n ≤ mostUp h f n ∧ mostUp h f n ≤ 60 ∧ (mostUp h f n = 0 ∨ secsI (mostUp h f n : Int) ≤ h) ∧ (mostUp h f n = 60 ∨ h < secsI ((mostUp h f n : Int) + 1)) := by
  intro f
  induction f with
  | zero => intro n hf hn h0; unfold mostUp; exact ⟨by omega, hn, h0, Or.inl (by omega)⟩
  | succ f ih =>
    intro n hf hn h0
    unfold mostUp
    split
    · rename_i hc
      obtain ⟨h1, h2, h3, h4⟩ := ih (n + 1) (by omega) (by omega) (Or.inr (by simpa using hc.2))
      exact ⟨by omega, h2, h3, h4⟩
    · rename_i hc
      refine ⟨by omega, hn, h0, ?_⟩
      rcases Nat.lt_or_ge n 60 with hlt | hge
      · exact Or.inr (by rw [not_and] at hc; have := hc hlt; omega)
      · exact Or.inl (by omega)
/-- At the number where the counting stops. -/
theorem most_stop (h : Int) (n : Nat) (hn : n ≤ 60) (h1 : ∀ k : Nat, k < n → secsI ((k : Int) + 1) ≤ h) (h2 : n = 60 ∨ h < secsI ((n : Int) + 1)) : ∀ (d k f : Nat), k + d = n → 60 ≤ f + k → mostUp h f k = n := by
  intro d
  induction d with
  | zero =>
    intro k f hk hf
    obtain rfl : k = n := by omega
    cases f with
    | zero => rfl
    | succ f => unfold mostUp; rw [if_neg (by rcases h2 with h2 | h2 <;> omega)]
  | succ d ih =>
    intro k f hk hf
    cases f with
    | zero => omega
    | succ f => unfold mostUp; rw [if_pos ⟨by omega, h1 k (by omega)⟩]; exact ih (k + 1) f (by omega) (by omega)
set_option maxHeartbeats 4000000 in
theorem most_any (log : Int) (hlog : 1 ≤ log ∧ log ≤ 100000) (w : World) : Calls Try.prog 13 #[.int .i64 log] w fun x w' => x = .returned (.int .i64 (mostN log : Int)) ∧ Below w.heap.size w w' := by
  have n1 : decide (log < 1) = false := by simp; omega
  have n2 : decide (100000 < log) = false := by simp; omega
  have w1 : IntKind.i64.wrap (log - 1) = log - 1 := IntWalk.i64_in _ (by omega)
  have w2 : (log - 1).tdiv 2 = (log - 1) / 2 := Int.tdiv_eq_ediv_of_nonneg (by omega)
  have w3 : IntKind.i64.wrap ((log - 1) / 2) = (log - 1) / 2 := IntWalk.i64_in _ (by omega)
  have HLOG := Lib.hid hlog
  clear hlog
  go_enter Try.func13, Try.ntmps13
  go_wp2_with fail
  go_loopw [3] (fun i wr => ∃ k : Nat, i = .int .i64 (k : Int) ∧ k ≤ 60 ∧ (∀ j : Nat, j < k → secsI ((j : Int) + 1) ≤ (log - 1) / 2) ∧ Hid (Below w.heap.size w wr)) (fun i _ => 60 - (intOf i).toNat)
  case atStart => exact ⟨0, rfl, by omega, fun j hj => by omega, Lib.hid (belowSame _)⟩
  case round =>
    obtain ⟨k, rfl, hk, hall, HB⟩ := hrel
    by_cases hlt : k < 60
    · have e1 : IntKind.i64.wrap ((k : Int) + 1) = (k : Int) + 1 := IntWalk.i64_in _ (by omega)
      have c1 : decide ((k : Int) < 60) = true := by simp; omega
      by_cases hs : secsI ((k : Int) + 1) ≤ (log - 1) / 2
      · have c2 : decide (secsI ((k : Int) + 1) ≤ (log - 1) / 2) = true := by simpa using hs
        go_wp2_with (go_at_call 11; refine (sectors_any _ _).mono ?_; rintro x w4 ⟨rfl, rfl⟩)
        go_roundw
        case rel => exact ⟨k + 1, by go_num, by omega, fun j hj => by rcases (by omega : j < k ∨ j = k) with h | rfl; exact hall j h; exact hs, HB⟩
        case measure => simp [intOf]; omega
      · have c2 : decide (secsI ((k : Int) + 1) ≤ (log - 1) / 2) = false := by simp; omega
        go_wp2_with (go_at_call 11; refine (sectors_any _ _).mono ?_; rintro x w4 ⟨rfl, rfl⟩)
        go_ret
        have hm : mostN log = k := most_stop _ k (by omega) hall (Or.inr (by omega)) k 0 60 (by omega) (by omega)
        exact ⟨by rw [hm]; rfl, HB.out⟩
    · obtain rfl : k = 60 := by omega
      go_wp2_with fail
      go_ret
      have hm : mostN log = 60 := most_stop _ 60 (by omega) hall (Or.inl rfl) 60 0 60 (by omega) (by omega)
      exact ⟨by rw [hm]; rfl, HB.out⟩
end Go.Proofs.Ytmfbggdoejcpiaa.RC
