/- SumTells: the walk. No condition. -/
import Derived.Test.YtooapgeokonlhaaRefSum2
import Derived.Test.YtooapgeokonlhaaSumSet
import Derived.Test.YtooapgeokonlhaaSumLaw
import Derived.Test.YtooapgeokonlhaaLentTexts
import Derived.Test.YtooapgeokonlhaaTexts2
import Derived.Deep.DeepCutAuto
import Derived.Deep.CutBlock
namespace Go.Proofs.Ytooapgeokonlhaa.sumTells
open Go.RowKit Go.Proofs.Ytooapgeokonlhaa.SM Go.Proofs.Ytooapgeokonlhaa.Bk
set_option linter.unusedVariables false

abbrev texts2_in {H : Type} {enc : TypeId × Value → H} := @Go.Proofs.Ytooapgeokonlhaa.texts2_in H enc
def Tells2 (f : FuncId) (args : Array Value) (s : ByteArray) (e : Int) : Prop := ∀ w, Calls Try.prog f args w fun x w' => x = .returned (.tuple #[.string s, .int .i64 e]) ∧ Below w.heap.size w w'
theorem same_of {f : FuncId} {args : Array Value} {s : ByteArray} {e : Int} (h : ∀ w, Calls Try.prog f args w fun x w' => x = .returned (.tuple #[.string s, .int .i64 e]) ∧ w = w') : Tells2 f args s e :=
  fun w => (h w).mono fun x w' ⟨h1, h2⟩ => ⟨h1, h2 ▸ belowSame _⟩
theorem both_open (b : ByteArray) (hs : b.size ≤ 1000000) : ∃ s e, Tells2 10 #[.string b] s e ∧ Tells2 11 #[.string b] s e := by
  by_cases h : b.size < 4
  · exact ⟨_, _, same_of (open_short b h), same_of (refopen_short b h)⟩
  · cases hf : fits b
    · exact ⟨_, _, open_bad b (by omega) hs hf, refopen_bad b (by omega) hs hf⟩
    · exact ⟨_, _, open_ok b (by omega) hs hf, refopen_ok b (by omega) hs hf⟩
theorem both_read (b : ByteArray) (hs : b.size ≤ 1000000) : ∃ s e, Tells2 12 #[.string b] s e ∧ Tells2 13 #[.string b] s e := by
  by_cases h : b.size < 4
  · exact ⟨_, _, same_of (read_short b h), same_of (refread_short b h)⟩
  · have hb : b.size = (b.size - 4) + 4 := by omega
    have hr := refread_any b (b.size - 4) hb hs
    unfold RefReadOut at hr
    cases hf : fitsR b
    · rw [hf] at hr
      exact ⟨_, _, read_bad b (b.size - 4) hb hs hf, hr⟩
    · rw [hf] at hr
      exact ⟨_, _, read_ok b (b.size - 4) hb hs hf, hr⟩
theorem both_stamp (s : ByteArray) (n : Int) : ∃ t e, Tells2 14 #[.string s, .int .i64 n] t e ∧ Tells2 15 #[.string s, .int .i64 n] t e := by
  by_cases h : n < 4 ∨ 60000 < n
  · exact ⟨_, _, same_of (stamp_arg s n h), same_of (refstamp_arg s n h)⟩
  · by_cases h3 : n - 4 < (s.size : Int)
    · exact ⟨_, _, same_of (stamp_long s n (by omega) (by omega) h3), same_of (refstamp_long s n (by omega) (by omega) h3)⟩
    · obtain ⟨m, rfl⟩ : ∃ m : Nat, n = (m : Int) := ⟨n.toNat, by omega⟩
      exact ⟨_, _, stamp_ok s m (by omega) (by omega) (by omega), refstamp_ok s m (by omega) (by omega) (by omega)⟩
/-- Texts one behind the other. -/
def catT (l : List ByteArray) : ByteArray := ⟨(allB l).toArray⟩
theorem catT_snoc (l : List ByteArray) (k : Nat) (s : ByteArray) (h : l[k]? = some s) : catT (l.take (k + 1)) = catT (l.take k) ++ s := by
  apply Go.WideShapes.bytes_inj
  rw [app_data]
  exact allB_snoc l k s h
theorem catT_size (l : List ByteArray) : (catT l).size = sumSz l := by
  show (allB l).toArray.size = _
  unfold allB sumSz
  simp [List.length_flatMap]
theorem sumSz_take (l : List ByteArray) (k : Nat) : sumSz (l.take k) ≤ sumSz l := by
  conv => rhs; rw [← List.take_append_drop k l]
  unfold sumSz
  simp only [List.map_append, List.sum_append]
  omega
set_option maxHeartbeats 1000000 in
set_option maxRecDepth 100000 in
theorem walk (A : Option Addr) (len cap : Nat) (l : List ByteArray) (b : ByteArray) (n : Int) (w : World) (g0 : TextsIs w A len cap l) (_g1 : b.size ≤ maxLen) (g2 : (Lit.int .i64 n).wf = true) :
    Calls Try.prog 3 #[.slice A len cap, .string b, .int .i64 n] w fun e w' => e = .returned (.bool true) ∧ Below w.heap.size w w' := by
  obtain ⟨hl, hlc, hcm, hll, hsz⟩ := g0
  unfold maxLen at _g1
  have kshort := short_any 60 6000 A len cap l w hl (Nat.le_trans hlc hcm) hsz (by omega) (by omega)
  have hlm : len ≤ 9223372036854775807 := Nat.le_trans hlc hcm
  have HS := Lib.hid hsz
  have HL := Lib.hid hl
  have HN := Lib.hid hll
  clear hl hll hsz hcm hlc
  by_cases c1 : (3000 : Int) < b.size
  · go_enter Try.func3, Try.ntmps3
    go_wp2_with (go_at_call 7; refine kshort.mono ?_; rintro e w1 ⟨q, rfl, _, hw1⟩; cases q)
    all_goals
      go_wp2_with (go_at_call 8; refine (alive_any _).mono ?_; rintro e w2 ⟨rfl, hb⟩)
      go_ret
      exact ⟨rfl, belowThen hw1 hb⟩
  obtain ⟨s1, e1, kop, krop⟩ := both_open b (by omega)
  obtain ⟨s2, e2, krd, krrd⟩ := both_read b (by omega)
  have kseal := seal_any b (by omega)
  have krseal := refseal_any b (by omega)
  have hnb := bounds_i64 g2
  obtain ⟨s3, e3, kst, krst⟩ := both_stamp b n
  obtain ⟨s4, e4, kst4, krst4⟩ := both_stamp b 3100
  unfold Tells2 at kop krop krd krrd kst krst kst4 krst4
  go_enter Try.func3, Try.ntmps3
  go_wp2_with (go_at_call 7; refine kshort.mono ?_; rintro e w1 ⟨q, rfl, hq, hw1⟩; cases q; (go_wp2_with (go_at_call 8; refine (alive_any _).mono ?_; rintro e w2 ⟨rfl, hb⟩); go_ret; exact ⟨rfl, belowThen hw1 hb⟩))
  all_goals
    obtain ⟨hn60, htot⟩ := hq trivial
    have HT := Lib.hid htot
    have hsum : sumL (catT l).data.toList = sumL (allB l) := rfl
    clear hq htot kshort
    go_loop [7, 8] (fun x i => ∃ k : Nat, k ≤ len ∧ i = .int .i64 (k : Int) ∧ x = .string (catT (l.take k))) (fun _ i => len - (intOf i).toNat)
    case atStart => exact ⟨0, by omega, rfl, rfl⟩
    case round =>
      obtain ⟨k, hk, rfl, rfl⟩ := hrel
      by_cases hlt : k < len
      · obtain ⟨ad, u, rfl, hu, hcell⟩ := HL.out.at_ hlt
        obtain ⟨s, hsk, rfl⟩ : ∃ s, l[k]? = some s ∧ Value.string s = u := by simpa using hu
        have hc : w1.cell? (ad.add k) = some (.string s) := by rw [hw1.cell (World.block_lt_of_cell? w _ hcell)]; exact hcell
        have HS2 := Lib.hid (catT_snoc l k s hsk)
        have hadd : ¬ 9223372036854775807 < (catT (l.take k)).size + s.size := by
          have h1 := congrArg ByteArray.size HS2.out
          rw [ByteArray.size_append] at h1
          rw [← h1, catT_size]
          have := sumSz_take l (k + 1)
          have := HT.out
          omega
        clear hu hsk hcell
        generalize catT (l.take k) = P at HS2 hadd ⊢
        go_wp2
        go_round
        case rel => exact ⟨k + 1, by omega, by go_num, by rw [HS2.out]⟩
        case measure => simp [intOf]; omega
      · obtain rfl : k = len := by omega
        rw [show l.take k = l from List.take_of_length_le (by have := HN.out; omega)]
        have hcz : (catT l).size ≤ 6000 := by rw [catT_size]; exact HT.out
        have klent := lent_texts A k cap l w1 (HL.out.old (by omega) hw1) (by omega)
        obtain ⟨v, hv⟩ : ∃ v, sumL (allB l) = v := ⟨_, rfl⟩
        have hof : ∀ {g cp W}, LentAt W w1.heap.size g k cp l → Calls Try.prog 16 #[.slice (some ⟨g, 0, none⟩) k cp] W fun e w' => e = .returned (.int .u32 v) ∧ W = w' := fun {g cp W} h => hv ▸ of_any (some ⟨g, 0, none⟩) k cp l W (h.lies HN.out) (by unfold maxLen; omega) HS.out
        have hrs : ∀ W, Calls Try.prog 17 #[.string (catT l)] W fun e w' => e = .returned (.int .u32 v) ∧ W = w' := fun W => hv ▸ refsum_any (catT l) W (by unfold maxLen; omega)
        generalize catT l = C at hrs ⊢
        clear hv hcz hsum
        go_wp2_with (go_at_call 9; refine klent.mono ?_; rintro e w2 ⟨g, cp, rfl, hcp, hcm, hlent, hw2⟩)
        have HLE := Lib.hid hlent
        have hcp2 : (k : Int) + 1 ≤ (cp : Int) := by omega
        clear hlent klent
        go_wp2_with (first
          | (go_at_call 10; refine (kop _).mono ?_; rintro e w3 ⟨rfl, hw3⟩)
          | (go_at_call 11; refine (krop _).mono ?_; rintro e w4 ⟨rfl, hw4⟩)
          | (go_at_call 12; refine (krd _).mono ?_; rintro e w5 ⟨rfl, hw5⟩)
          | (go_at_call 13; refine (krrd _).mono ?_; rintro e w6 ⟨rfl, hw6⟩)
          | (go_at_call 14; ((first | with_reducible refine (kst _).mono ?_ | with_reducible refine (kst4 _).mono ?_); rintro e w7 ⟨rfl, hw7⟩))
          | (go_at_call 15; ((first | with_reducible refine (krst _).mono ?_ | with_reducible refine (krst4 _).mono ?_); rintro e w8 ⟨rfl, hw8⟩))
          | (go_at_call 8; refine (alive_any _).mono ?_; rintro e w9 ⟨rfl, hw9⟩)
          | (go_at_call 16; refine (hof (HLE.out.below (belowThen (belowThen (belowThen (belowThen (belowThen (belowThen hw3 hw4) hw5) hw6) hw7) hw8) hw9))).mono ?_; rintro e w' ⟨rfl, rfl⟩)
          | (go_at_call 17; refine (hrs _).mono ?_; rintro e w' ⟨rfl, rfl⟩)
          | (go_at_call 18; refine (kseal _).mono ?_; rintro e w10 ⟨rfl, hw10⟩)
          | (go_at_call 19; refine (krseal _).mono ?_; rintro e w11 ⟨rfl, hw11⟩)
          | (go_at_call 20; refine (stays_texts _ g k cp cap A l _ (HLE.out.below (belowThen (belowThen (belowThen (belowThen (belowThen (belowThen (belowThen (belowThen hw3 hw4) hw5) hw6) hw7) hw8) hw9) hw10) hw11)) HN.out (HL.out.old (by omega) (belowThen (belowThen (belowThen (belowThen (belowThen (belowThen (belowThen (belowThen (belowThen (belowThen hw1 hw2) hw3) hw4) hw5) hw6) hw7) hw8) hw9) hw10) hw11)) (by omega) hcp hcm).mono ?_; rintro e w' ⟨rfl, m, rfl⟩))
        go_ret
        exact ⟨rfl, belowDrewN (belowThen (belowThen (belowThen (belowThen (belowThen (belowThen (belowThen (belowThen (belowThen (belowThen hw1 hw2) hw3) hw4) hw5) hw6) hw7) hw8) hw9) hw10) hw11) m⟩
end Go.Proofs.Ytooapgeokonlhaa.sumTells
