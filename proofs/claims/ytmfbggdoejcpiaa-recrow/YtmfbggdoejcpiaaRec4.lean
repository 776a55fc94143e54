/- rec: Put. No condition. -/
import Derived.Test.YtmfbggdoejcpiaaRec3
namespace Go.Proofs.Ytmfbggdoejcpiaa.RC
open Go.RowKit Go.Proofs.Ytmfbggdoejcpiaa.WI Go.Proofs.Ytmfbggdoejcpiaa.SM
set_option linter.unusedVariables false
set_option linter.unusedSimpArgs false

def partT (B : ByteArray) (k : Nat) : ByteArray := B.extract (42 * k) (min (42 * (k + 1)) B.size)
def secT (e l : Int) (n : Nat) (B : ByteArray) (k : Nat) : ByteArray := stampT (labelT e l (k : Int) (n : Int) ++ partT B k) 64
def putK (e l : Int) (n : Nat) (B : ByteArray) : Nat → ByteArray
  | 0 => ⟨#[]⟩
  | k + 1 => putK e l n B k ++ secT e l n B k
def secsN (n : Nat) : Nat := (108 * n + 41) / 42
/-- The bytes of a record. -/
def putT (e l : Int) (xs : List Im) : ByteArray := putK e l xs.length (bodyK xs xs.length) (secsN xs.length)
theorem secsI_nat {n : Nat} (h1 : 1 ≤ n) (h2 : n ≤ 60) : secsI (n : Int) = (secsN n : Int) := by
  unfold secsI secsN
  rw [if_neg (by omega)]
  omega
theorem stampT_size (s : ByteArray) (n : Nat) (h1 : 4 ≤ n) (h2 : s.size ≤ n - 4) : (stampT s n).size = n := by
  unfold stampT padT
  rw [ByteArray.size_append, ByteArray.size_append, zerosT_size, fourT_size]
  omega
theorem partT_size (B : ByteArray) (k : Nat) : (partT B k).size ≤ 42 := by
  unfold partT
  rw [ByteArray.size_extract]
  omega
theorem secT_size (e l : Int) (n : Nat) (B : ByteArray) (k : Nat) : (secT e l n B k).size = 64 := by
  unfold secT
  refine stampT_size _ 64 (by omega) ?_
  rw [ByteArray.size_append, labelT_size]
  have := partT_size B k
  omega
theorem putK_size (e l : Int) (n : Nat) (B : ByteArray) (k : Nat) : (putK e l n B k).size = 64 * k := by
  induction k with
  | zero => rfl
  | succ k ih => unfold putK; rw [ByteArray.size_append, ih, secT_size]; omega
theorem rise_at {xs : List Im} {n : Nat} (h : riseB xs n = true) : ∀ k, k < n → rightB (xs.getD k im0) = true := by
  induction n with
  | zero => intro k hk; omega
  | succ n ih =>
    intro k hk
    unfold riseB at h
    simp only [Bool.and_eq_true] at h
    by_cases e : k = n
    · subst e; exact h.1.2
    · exact ih h.1.1 k (by omega)
theorem right_iff {x : Im} (h : rightB x = true) : 0 ≤ x.b ∧ x.b < 4096 ∧ x.d.size = 96 := by
  unfold rightB at h
  simp at h
  exact ⟨h.1.1, h.1.2, h.2⟩
/-- A record that may be. -/
structure Fits (e l : Int) (xs : List Im) : Prop where
  e : e ≠ 0
  l : l ≠ 0
  n1 : 1 ≤ xs.length
  n2 : xs.length ≤ 60
  rise : riseB xs xs.length = true
theorem wrong_iff {e l : Int} {xs : List Im} : wrongE e l xs = 0 ↔ Fits e l xs := by
  unfold wrongE
  constructor
  · intro h
    split at h
    · cases h
    · rename_i hn
      split at h
      · rename_i hr
        split at h
        · cases h
        · exact ⟨fun e => hn (.inl e), fun e => hn (.inr (.inl e)), by have : xs.length ≠ 0 := fun e => hn (.inr (.inr e)); omega, by omega, hr⟩
      · cases h
  · intro h
    rw [if_neg (by rintro (a | a | a); exact h.e a; exact h.l a; have := h.n1; omega), if_pos h.rise, if_neg (by have := h.n2; omega)]
theorem Fits.good {e l : Int} {xs : List Im} (h : Fits e l xs) (hok : ∀ x ∈ xs, ImOk x) : Good xs := by
  intro x hx
  obtain ⟨k, hk, rfl⟩ := List.mem_iff_getElem.1 hx
  have hr := right_iff (rise_at h.rise k hk)
  rw [List.getD_eq_getElem?_getD, List.getElem?_eq_getElem hk] at hr
  have := (hok _ (List.getElem_mem hk)).v
  exact ⟨hr.1, hr.2.1, hr.2.2, this.1, this.2⟩
theorem put_bad (e l : Int) (A : Option Addr) (n c : Nat) (xs : List Im) (w : World) (h : Ims w A n c xs) (hw : wrongE e l xs ≠ 0) :
    Calls Try.prog 9 #[.agg #[.int .u64 e, .int .u64 l, .slice A n c]] w fun x w' => x = .returned (.tuple #[.string ⟨#[]⟩, .int .i64 (wrongE e l xs)]) ∧ Below w.heap.size w w' := by
  have kw := wrong_any e l A n c xs (w.alloc (.cells #[.int .u64 e, .int .u64 l, .slice A n c] 25)) (h.old ((Below.refl _ w).alloc (Nat.le_refl _) _))
  obtain ⟨E, hE⟩ : ∃ E, wrongE e l xs = E := ⟨_, rfl⟩
  rw [hE] at kw hw ⊢
  have n1 : (E != 0) = true := by simpa using hw
  clear h hE hw
  go_enter Try.func9, Try.ntmps9
  go_wp2_with (go_at_call 18; refine kw.mono ?_; rintro x w1 ⟨rfl, hb⟩; have HB := Lib.hid hb; clear hb kw)
  go_ret2
  have hA := (Below.refl _ w).alloc (Nat.le_refl _) (.cells #[.int .u64 e, .int .u64 l, .slice A n c] 25)
  exact ⟨rfl, hA.trans (HB.out.mono hA.size)⟩
set_option maxHeartbeats 8000000 in
theorem put_ok (e l : Int) (A : Option Addr) (n c : Nat) (xs : List Im) (w : World) (h : Ims w A n c xs) (hf : Fits e l xs) (he : 0 ≤ e ∧ e ≤ 18446744073709551615) (hl : 0 ≤ l ∧ l ≤ 18446744073709551615) :
    Calls Try.prog 9 #[.agg #[.int .u64 e, .int .u64 l, .slice A n c]] w fun x w' => x = .returned (.tuple #[.string (putT e l xs), .int .i64 0]) ∧ Below w.heap.size w w' := by
  have hln := h.2.2.1
  have hgood := hf.good h.2.2.2.1
  have hn1 := hf.n1
  have hn2 := hf.n2
  rw [hln] at hn1 hn2
  have hb0 : Below w.heap.size w (w.alloc (.cells #[.int .u64 e, .int .u64 l, .slice A n c] 25)) := (Below.refl _ w).alloc (Nat.le_refl _) _
  have kw := wrong_any e l A n c xs (w.alloc (.cells #[.int .u64 e, .int .u64 l, .slice A n c] 25)) (h.old hb0)
  rw [wrong_iff.2 hf] at kw
  have kb := fun W (hb : Below w.heap.size w W) => body_any A n c xs W (h.old hb) hgood (by omega)
  have ks := fun W => sectors_any (n : Int) W
  rw [secsI_nat hn1 hn2] at ks
  obtain ⟨m, hm⟩ : ∃ m, secsN n = m := ⟨_, rfl⟩
  rw [hm] at ks
  have hm2 : m ≤ 155 := by rw [← hm]; unfold secsN; omega
  have hm3 : 42 * m < 108 * n + 42 := by rw [← hm]; unfold secsN; omega
  have hput : putT e l xs = putK e l n (bodyK xs n) m := by unfold putT; rw [hln, hm]
  rw [hput]
  have hbs := bodyK_size hgood (k := n) (by omega)
  obtain ⟨Bd, hBd⟩ : ∃ B, bodyK xs n = B := ⟨_, rfl⟩
  rw [hBd] at kb hbs ⊢
  have klb := fun (k : Nat) (hk : k < m) W => label_any e l (k : Int) (n : Int) A n c he hl ⟨by omega, by omega⟩ ⟨by omega, by omega⟩ W
  have KLA := Lib.hid klb
  have KB := Lib.hid kb
  clear h hf hln hgood hm hput hBd klb kb
  go_enter Try.func9, Try.ntmps9
  go_upto_region 1 with fail
  have hbk := Blk.new w 25 #[.int .u64 e, .int .u64 l, .slice A n c]
  obtain ⟨W1, hW1⟩ : ∃ W1, w.alloc (.cells #[.int .u64 e, .int .u64 l, .slice A n c] 25) = W1 := ⟨_, rfl⟩
  rw [hW1] at hbk hb0 kw ⊢
  obtain ⟨x0, hx0⟩ : ∃ x, w.heap.size = x := ⟨_, rfl⟩
  rw [hx0] at hbk ⊢
  have HXX := Lib.hid hx0
  have c0 : W1.cell? ⟨x0, 0, none⟩ = some (.int .u64 e) := hbk.cell 0
  have c1 : W1.cell? ⟨x0, 1, none⟩ = some (.int .u64 l) := hbk.cell 1
  have c2 : W1.cell? ⟨x0, 2, none⟩ = some (.slice A n c) := hbk.cell 2
  have HLT : Hid (x0 < W1.heap.size) := Lib.hid hbk.lt
  have C0 := Lib.hid c0
  have C1 := Lib.hid c1
  have C2 := Lib.hid c2
  have HB0 := Lib.hid hb0
  clear hbk hW1 hx0 hb0
  go_upto_region 6 with (first
    | (go_at_call 18; refine kw.mono ?_; rintro x w2 ⟨rfl, hb2⟩; have s0 := (hb2.cell (p := ⟨x0, 0, none⟩) HLT.out).trans C0.out; have s1 := (hb2.cell (p := ⟨x0, 1, none⟩) HLT.out).trans C1.out; have s2 := (hb2.cell (p := ⟨x0, 2, none⟩) HLT.out).trans C2.out; have HB2 := Lib.hid hb2; clear hb2 kw c0 c1 c2)
    | (go_at_call 19; refine (KB.out _ (HB0.out.trans (HB2.out.mono HB0.out.size))).mono ?_; rintro x w3 ⟨rfl, hb3⟩; have hb23 := HB2.out.trans (hb3.mono HB2.out.size); have z0 := (hb23.cell (p := ⟨x0, 0, none⟩) HLT.out).trans C0.out; have z1 := (hb23.cell (p := ⟨x0, 1, none⟩) HLT.out).trans C1.out; have z2 := (hb23.cell (p := ⟨x0, 2, none⟩) HLT.out).trans C2.out; have HB3 := Lib.hid hb23; clear hb3 hb23)
    | (go_at_call 11; refine (ks _).mono ?_; rintro x w4 ⟨rfl, rfl⟩))
  clear s0 s1 s2 z0 z1 z2 ks KB
  go_loopw [6, 7, 8, 9, 22] (fun s _ _ _ i wr => ∃ k : Nat, i = .int .i64 (k : Int) ∧ s = .string (putK e l n Bd k) ∧ k ≤ m ∧ Hid (Below W1.heap.size W1 wr)) (fun _ _ _ _ i _ => m - (intOf i).toNat)
  case atStart => exact ⟨0, rfl, rfl, by omega, HB3⟩
  case round =>
    clear HB3 HB2
    obtain ⟨k, rfl, rfl, hk, HB⟩ := hrel
    by_cases hlt : k < m
    · have klb := KLA.out k hlt
      obtain ⟨LB, hLB⟩ : ∃ LB, labelT e l (k : Int) (n : Int) = LB := ⟨_, rfl⟩
      obtain ⟨PT, hPT⟩ : ∃ PT, partT Bd k = PT := ⟨_, rfl⟩
      have hls := labelT_size e l (k : Int) (n : Int)
      have hps := partT_size Bd k
      rw [hLB] at hls klb
      rw [hPT] at hps
      have kst := fun W => stamp_ok (LB ++ PT) 64 (by omega) (by omega) (by rw [ByteArray.size_append]; omega) W
      obtain ⟨ST, hST⟩ : ∃ ST, stampT (LB ++ PT) 64 = ST := ⟨_, rfl⟩
      rw [hST] at kst
      have hss : ST.size = 64 := by rw [← hST]; exact stampT_size _ 64 (by omega) (by rw [ByteArray.size_append]; omega)
      have hpk : putK e l n Bd (k + 1) = putK e l n Bd k ++ ST := by show _ ++ secT e l n Bd k = _; unfold secT; rw [hLB, hPT, hST]
      have hpz := putK_size e l n Bd k
      obtain ⟨PK, hPK⟩ : ∃ PK, putK e l n Bd k = PK := ⟨_, rfl⟩
      rw [hPK] at hpk hpz ⊢
      obtain ⟨bs, hbs2⟩ : ∃ bs, Bd.size = bs := ⟨_, rfl⟩
      obtain ⟨M, hM⟩ : ∃ M : Nat, min (42 * (k + 1)) Bd.size = M := ⟨_, rfl⟩
      have hM1 : 42 * k ≤ M ∧ M ≤ Bd.size := by omega
      have hsl : ∀ w : World, (Instr.slice 9 (.string Bd) (some (.int .i64 ((k : Int) * 42))) (some (.int .i64 (M : Int))) none).run Try.prog w = .ok (.string PT) w := fun w => by
        rw [run_slice_string (P := Try.prog) w _ Bd .i64 .i64 ((k : Int) * 42) (M : Int) Try.underlying9 (by omega) (by omega) (by omega)]
        rw [← hPT]
        unfold partT
        rw [hM, show ((k : Int) * 42).toNat = 42 * k by omega, show ((M : Int)).toNat = M by omega]
      have hmi : min (((k : Int) + 1) * 42) (bs : Int) = (M : Int) := by omega
      have hz1 : ¬ 9223372036854775807 < LB.size + PT.size := by omega
      have hz2 : ¬ 9223372036854775807 < PK.size + ST.size := by omega
      have e1 : IntKind.i64.wrap ((k : Int) + 1) = (k : Int) + 1 := IntWalk.i64_in _ (by omega)
      have e2 : IntKind.i64.wrap ((k : Int) * 42) = (k : Int) * 42 := IntWalk.i64_in _ (by omega)
      have e3 : IntKind.i64.wrap (((k : Int) + 1) * 42) = ((k : Int) + 1) * 42 := IntWalk.i64_in _ (by omega)
      have S0 : Hid (wr.cell? ⟨x0, 0, none⟩ = some (.int .u64 e)) := Lib.hid ((HB.out.cell (p := ⟨x0, 0, none⟩) HLT.out).trans C0.out)
      have S1 : Hid (wr.cell? ⟨x0, 1, none⟩ = some (.int .u64 l)) := Lib.hid ((HB.out.cell (p := ⟨x0, 1, none⟩) HLT.out).trans C1.out)
      have S2 : Hid (wr.cell? ⟨x0, 2, none⟩ = some (.slice A n c)) := Lib.hid ((HB.out.cell (p := ⟨x0, 2, none⟩) HLT.out).trans C2.out)
      have HXL : Hid (x0 < wr.heap.size) := Lib.hid (Nat.lt_of_lt_of_le HLT.out HB.out.size)
      have KLB := Lib.hid klb
      have KST := Lib.hid kst
      have HPK := Lib.hid hpk
      clear klb kst hpk hPK hST hPT hLB hM hls hps hpz hss hbs
      go_upto_region 8 with fail
      refine wp_region_inv (fun i' v' w' => ([(fun v' _ => v' = (.agg #[.int .u64 e, .int .u64 l, .slice A n c])), (fun v' _ => v' = (.int .i64 (k : Int))), (fun v' _ => v' = (.pointer (some ⟨x0, 2, none⟩))), (fun v' _ => v' = (.slice A n c)), (fun v' _ => v' = (.int .i64 (n : Int))), (fun v' _ => v' = (.string LB)), (fun v' _ => v' = (.string Bd)), (fun v' _ => v' = (.int .i64 (k : Int))), (fun v' _ => v' = (.int .i64 ((k : Int) * 42))), (fun v' _ => v' = (.int .i64 (k : Int))), (fun v' _ => v' = (.int .i64 ((k : Int) + 1))), (fun v' _ => v' = (.int .i64 (((k : Int) + 1) * 42))), (fun v' _ => v' = (.string Bd)), (fun v' _ => v' = (.int .i64 (bs : Int))), (fun v' _ => v' = (.int .i64 (M : Int))), (fun v' _ => v' = (.string PT)), (fun v' _ => v' = (.string (LB ++ PT))), (fun v' _ => v' = (.tuple #[.string ST, .int .i64 0])), (fun v' _ => v' = (.tuple #[.string ST, .int .i64 0])), (fun v' _ => v' = (.string ST)), (fun v' _ => v' = (.int .i64 0)), (fun v' _ => v' = (.string ST)), (fun v' _ => v' = (.int .i64 0))] : List (Value → World → Prop)).getD i' (fun _ _ => True) v' w') (by kernel_rfl) (by kernel_rfl) (stab_list (by
          repeat (first | exact allStab_nil | refine allStab_cons (stab_eq _) ?_ | refine allStab_cons (stab_slice _ _) ?_))) ?_ ?_
      · refine steps_cons rfl ?_ ?_
        · intro a w hR K hK
          have e1 : a.tmps.getD 1 undef = (.pointer (some ⟨x0, 0, none⟩)) := hR.old 1 (by kernel_rfl) rfl
          rw [if_pos (wanted_none rfl)]
          have hc0 := (hR.bel.cell (p := ⟨x0, 0, none⟩) HXL.out).trans S0.out
          have hc1 := (hR.bel.cell (p := ⟨x0, 1, none⟩) HXL.out).trans S1.out
          have hc2 := (hR.bel.cell (p := ⟨x0, 2, none⟩) HXL.out).trans S2.out
          clear hR
          go_simp
          exact hK _ _ (belowSame _) rfl
        refine steps_cons rfl ?_ ?_
        · intro a w hR K hK
          have e7 : a.tmps.getD 7 undef = (.int .i64 (k : Int)) := hR.old 7 (by kernel_rfl) rfl
          rw [if_pos (wanted_none rfl)]
          have hB := hR.bel
          clear hR
          go_simp
          exact hK _ _ (belowSame _) rfl
        refine steps_cons rfl ?_ ?_
        · intro a w hR K hK
          have e1 : a.tmps.getD 1 undef = (.pointer (some ⟨x0, 0, none⟩)) := hR.old 1 (by kernel_rfl) rfl
          rw [if_pos (wanted_none rfl)]
          have hB := hR.bel
          clear hR
          go_simp
          exact hK _ _ (belowSame _) rfl
        refine steps_cons rfl ?_ ?_
        · intro a w hR K hK
          obtain ⟨v28, e28, _, q28⟩ := hR.val 2 28 (by kernel_rfl) (by kernel_rfl)
          obtain rfl : v28 = (.pointer (some ⟨x0, 2, none⟩)) := q28
          rw [if_pos (wanted_none rfl)]
          have hc2 := (hR.bel.cell (p := ⟨x0, 2, none⟩) HXL.out).trans S2.out
          clear hR
          go_simp
          exact hK _ _ (belowSame _) rfl
        refine steps_cons rfl ?_ ?_
        · intro a w hR K hK
          obtain ⟨v29, e29, _, q29⟩ := hR.val 3 29 (by kernel_rfl) (by kernel_rfl)
          obtain rfl : v29 = (.slice A n c) := q29
          rw [if_pos (wanted_none rfl)]
          have hB := hR.bel
          clear hR
          go_simp
          exact hK _ _ (belowSame _) rfl
        refine steps_cons rfl ?_ ?_
        · intro a w hR K hK
          obtain ⟨v26, e26, _, q26⟩ := hR.val 0 26 (by kernel_rfl) (by kernel_rfl)
          obtain rfl : v26 = (.agg #[.int .u64 e, .int .u64 l, .slice A n c]) := q26
          obtain ⟨v27, e27, _, q27⟩ := hR.val 1 27 (by kernel_rfl) (by kernel_rfl)
          obtain rfl : v27 = (.int .i64 (k : Int)) := q27
          obtain ⟨v30, e30, _, q30⟩ := hR.val 4 30 (by kernel_rfl) (by kernel_rfl)
          obtain rfl : v30 = (.int .i64 (n : Int)) := q30
          rw [if_pos (wanted_none rfl)]
          have hB := hR.bel
          clear hR
          go_simp
          refine (KLB.out _).mono ?_
          rintro e w' ⟨rfl, hw⟩
          exact hK _ _ (by first | exact belowOfEq hw | exact hw) rfl
        refine steps_cons rfl ?_ ?_
        · intro a w hR K hK
          have e5 : a.tmps.getD 5 undef = (.string Bd) := hR.old 5 (by kernel_rfl) rfl
          rw [if_pos (wanted_none rfl)]
          have hB := hR.bel
          clear hR
          go_simp
          exact hK _ _ (belowSame _) rfl
        refine steps_cons rfl ?_ ?_
        · intro a w hR K hK
          have e7 : a.tmps.getD 7 undef = (.int .i64 (k : Int)) := hR.old 7 (by kernel_rfl) rfl
          rw [if_pos (wanted_none rfl)]
          have hB := hR.bel
          clear hR
          go_simp
          exact hK _ _ (belowSame _) rfl
        refine steps_cons rfl ?_ ?_
        · intro a w hR K hK
          obtain ⟨v33, e33, _, q33⟩ := hR.val 7 33 (by kernel_rfl) (by kernel_rfl)
          obtain rfl : v33 = (.int .i64 (k : Int)) := q33
          rw [if_pos (wanted_none rfl)]
          have hB := hR.bel
          clear hR
          go_simp
          exact hK _ _ (belowSame _) rfl
        refine steps_cons rfl ?_ ?_
        · intro a w hR K hK
          have e7 : a.tmps.getD 7 undef = (.int .i64 (k : Int)) := hR.old 7 (by kernel_rfl) rfl
          rw [if_pos (wanted_none rfl)]
          have hB := hR.bel
          clear hR
          go_simp
          exact hK _ _ (belowSame _) rfl
        refine steps_cons rfl ?_ ?_
        · intro a w hR K hK
          obtain ⟨v35, e35, _, q35⟩ := hR.val 9 35 (by kernel_rfl) (by kernel_rfl)
          obtain rfl : v35 = (.int .i64 (k : Int)) := q35
          rw [if_pos (wanted_none rfl)]
          have hB := hR.bel
          clear hR
          go_simp
          exact hK _ _ (belowSame _) rfl
        refine steps_cons rfl ?_ ?_
        · intro a w hR K hK
          obtain ⟨v36, e36, _, q36⟩ := hR.val 10 36 (by kernel_rfl) (by kernel_rfl)
          obtain rfl : v36 = (.int .i64 ((k : Int) + 1)) := q36
          rw [if_pos (wanted_none rfl)]
          have hB := hR.bel
          clear hR
          go_simp
          exact hK _ _ (belowSame _) rfl
        refine steps_cons rfl ?_ ?_
        · intro a w hR K hK
          have e5 : a.tmps.getD 5 undef = (.string Bd) := hR.old 5 (by kernel_rfl) rfl
          rw [if_pos (wanted_none rfl)]
          have hB := hR.bel
          clear hR
          go_simp
          exact hK _ _ (belowSame _) rfl
        refine steps_cons rfl ?_ ?_
        · intro a w hR K hK
          obtain ⟨v38, e38, _, q38⟩ := hR.val 12 38 (by kernel_rfl) (by kernel_rfl)
          obtain rfl : v38 = (.string Bd) := q38
          rw [if_pos (wanted_none rfl)]
          have hB := hR.bel
          clear hR
          go_simp
          exact hK _ _ (belowSame _) rfl
        refine steps_cons rfl ?_ ?_
        · intro a w hR K hK
          obtain ⟨v37, e37, _, q37⟩ := hR.val 11 37 (by kernel_rfl) (by kernel_rfl)
          obtain rfl : v37 = (.int .i64 (((k : Int) + 1) * 42)) := q37
          obtain ⟨v39, e39, _, q39⟩ := hR.val 13 39 (by kernel_rfl) (by kernel_rfl)
          obtain rfl : v39 = (.int .i64 (bs : Int)) := q39
          rw [if_pos (wanted_none rfl)]
          have hB := hR.bel
          clear hR
          go_simp
          exact hK _ _ (belowSame _) rfl
        refine steps_cons rfl ?_ ?_
        · intro a w hR K hK
          obtain ⟨v32, e32, _, q32⟩ := hR.val 6 32 (by kernel_rfl) (by kernel_rfl)
          obtain rfl : v32 = (.string Bd) := q32
          obtain ⟨v34, e34, _, q34⟩ := hR.val 8 34 (by kernel_rfl) (by kernel_rfl)
          obtain rfl : v34 = (.int .i64 ((k : Int) * 42)) := q34
          obtain ⟨v40, e40, _, q40⟩ := hR.val 14 40 (by kernel_rfl) (by kernel_rfl)
          obtain rfl : v40 = (.int .i64 (M : Int)) := q40
          rw [if_pos (wanted_none rfl)]
          have hB := hR.bel
          clear hR
          go_simp
          exact hK _ _ (belowSame _) rfl
        refine steps_cons rfl ?_ ?_
        · intro a w hR K hK
          obtain ⟨v31, e31, _, q31⟩ := hR.val 5 31 (by kernel_rfl) (by kernel_rfl)
          obtain rfl : v31 = (.string LB) := q31
          obtain ⟨v41, e41, _, q41⟩ := hR.val 15 41 (by kernel_rfl) (by kernel_rfl)
          obtain rfl : v41 = (.string PT) := q41
          rw [if_pos (wanted_none rfl)]
          have hB := hR.bel
          clear hR
          go_simp
          exact hK _ _ (belowSame _) rfl
        refine steps_cons rfl ?_ ?_
        · intro a w hR K hK
          obtain ⟨v42, e42, _, q42⟩ := hR.val 16 42 (by kernel_rfl) (by kernel_rfl)
          obtain rfl : v42 = (.string (LB ++ PT)) := q42
          rw [if_pos (wanted_none rfl)]
          have hB := hR.bel
          clear hR
          go_simp
          refine (KST.out _).mono ?_
          rintro e w' ⟨rfl, hw⟩
          exact hK _ _ (by first | exact belowOfEq hw | exact hw) rfl
        refine steps_cons rfl ?_ ?_
        · intro a w hR K hK
          obtain ⟨v43, e43, _, q43⟩ := hR.val 17 43 (by kernel_rfl) (by kernel_rfl)
          obtain rfl : v43 = (.tuple #[.string ST, .int .i64 0]) := q43
          rw [if_pos (wanted_none rfl)]
          have hB := hR.bel
          clear hR
          go_simp
          exact hK _ _ (belowSame _) rfl
        refine steps_cons rfl ?_ ?_
        · intro a w hR K hK
          obtain ⟨v25, e25, _, q25⟩ := hR.val 18 25 (by kernel_rfl) (by kernel_rfl)
          obtain rfl : v25 = (.tuple #[.string ST, .int .i64 0]) := q25
          rw [if_pos (wanted_none rfl)]
          have hB := hR.bel
          clear hR
          go_simp
          exact hK _ _ (belowSame _) rfl
        refine steps_cons rfl ?_ ?_
        · intro a w hR K hK
          obtain ⟨v25, e25, _, q25⟩ := hR.val 18 25 (by kernel_rfl) (by kernel_rfl)
          obtain rfl : v25 = (.tuple #[.string ST, .int .i64 0]) := q25
          rw [if_pos (wanted_none rfl)]
          have hB := hR.bel
          clear hR
          go_simp
          exact hK _ _ (belowSame _) rfl
        refine steps_cons rfl ?_ ?_
        · intro a w hR K hK
          obtain ⟨v44, e44, _, q44⟩ := hR.val 19 44 (by kernel_rfl) (by kernel_rfl)
          obtain rfl : v44 = (.string ST) := q44
          rw [if_pos (wanted_none rfl)]
          have hB := hR.bel
          clear hR
          go_simp
          exact hK _ _ (belowSame _) rfl
        refine steps_cons rfl ?_ ?_
        · intro a w hR K hK
          obtain ⟨v45, e45, _, q45⟩ := hR.val 20 45 (by kernel_rfl) (by kernel_rfl)
          obtain rfl : v45 = (.int .i64 0) := q45
          rw [if_pos (wanted_none rfl)]
          have hB := hR.bel
          clear hR
          go_simp
          exact hK _ _ (belowSame _) rfl
        exact steps_nil
      · intro a' w' hF
        obtain ⟨v8, e8, _, q8⟩ := hF.val 21 8 (by decide) (by kernel_rfl)
        obtain rfl : v8 = (.string ST) := q8
        obtain ⟨v9, e9, _, q9⟩ := hF.val 22 9 (by decide) (by kernel_rfl)
        obtain rfl : v9 = (.int .i64 0) := q9
        have hB := belowUndrew hF.bel
        have hf := hF.frame
        rw [show dsts _ = [26, 27, 28, 29, 30, 31, 32, 33, 34, 35, 36, 37, 38, 39, 40, 41, 42, 43, 25, 44, 45, 8, 9] from by kernel_rfl] at hf
        obtain ⟨z26, h26⟩ : ∃ z, a'.tmps.getD 26 undef = z := ⟨_, rfl⟩
        obtain ⟨z27, h27⟩ : ∃ z, a'.tmps.getD 27 undef = z := ⟨_, rfl⟩
        obtain ⟨z28, h28⟩ : ∃ z, a'.tmps.getD 28 undef = z := ⟨_, rfl⟩
        obtain ⟨z29, h29⟩ : ∃ z, a'.tmps.getD 29 undef = z := ⟨_, rfl⟩
        obtain ⟨z30, h30⟩ : ∃ z, a'.tmps.getD 30 undef = z := ⟨_, rfl⟩
        obtain ⟨z31, h31⟩ : ∃ z, a'.tmps.getD 31 undef = z := ⟨_, rfl⟩
        obtain ⟨z32, h32⟩ : ∃ z, a'.tmps.getD 32 undef = z := ⟨_, rfl⟩
        obtain ⟨z33, h33⟩ : ∃ z, a'.tmps.getD 33 undef = z := ⟨_, rfl⟩
        obtain ⟨z34, h34⟩ : ∃ z, a'.tmps.getD 34 undef = z := ⟨_, rfl⟩
        obtain ⟨z35, h35⟩ : ∃ z, a'.tmps.getD 35 undef = z := ⟨_, rfl⟩
        obtain ⟨z36, h36⟩ : ∃ z, a'.tmps.getD 36 undef = z := ⟨_, rfl⟩
        obtain ⟨z37, h37⟩ : ∃ z, a'.tmps.getD 37 undef = z := ⟨_, rfl⟩
        obtain ⟨z38, h38⟩ : ∃ z, a'.tmps.getD 38 undef = z := ⟨_, rfl⟩
        obtain ⟨z39, h39⟩ : ∃ z, a'.tmps.getD 39 undef = z := ⟨_, rfl⟩
        obtain ⟨z40, h40⟩ : ∃ z, a'.tmps.getD 40 undef = z := ⟨_, rfl⟩
        obtain ⟨z41, h41⟩ : ∃ z, a'.tmps.getD 41 undef = z := ⟨_, rfl⟩
        obtain ⟨z42, h42⟩ : ∃ z, a'.tmps.getD 42 undef = z := ⟨_, rfl⟩
        obtain ⟨z43, h43⟩ : ∃ z, a'.tmps.getD 43 undef = z := ⟨_, rfl⟩
        obtain ⟨z25, h25⟩ : ∃ z, a'.tmps.getD 25 undef = z := ⟨_, rfl⟩
        obtain ⟨z44, h44⟩ : ∃ z, a'.tmps.getD 44 undef = z := ⟨_, rfl⟩
        obtain ⟨z45, h45⟩ : ∃ z, a'.tmps.getD 45 undef = z := ⟨_, rfl⟩
        simp only [List.foldl_cons, List.foldl_nil, h26, h27, h28, h29, h30, h31, h32, h33, h34, h35, h36, h37, h38, h39, h40, h41, h42, h43, h25, h44, h45, e8, e9] at hf
        simp only [List.setIfInBounds_toArray, List.set_cons_zero, List.set_cons_succ] at hf
        clear hF e8 e9 h26 h27 h28 h29 h30 h31 h32 h33 h34 h35 h36 h37 h38 h39 h40 h41 h42 h43 h25 h44 h45
        subst hf
        have HB3 := Lib.hid (HB.out.trans (hB.mono HB.out.size))
        clear hB
        go_wp2_with fail
        go_roundw
        case rel => exact ⟨k + 1, by go_num, by rw [HPK.out], by omega, HB3⟩
        case measure => simp [intOf]; omega
    · have hkm : k = m := by omega
      have hB1 := HB0.out
      obtain ⟨T, hT⟩ : ∃ T, putK e l n Bd k = T := ⟨_, rfl⟩
      rw [hT]
      have HT := Lib.hid (hkm ▸ hT)
      clear hT hkm hB1 KLA
      go_wp2_with fail
      go_ret2
      exact ⟨by rw [HT.out]; rfl, HB0.out.trans (HB.out.mono HB0.out.size)⟩
end Go.Proofs.Ytmfbggdoejcpiaa.RC
