/- The disk: Write. No condition. -/
import Derived.Test.YtacogpogplionaaDk8
import Derived.Test.YtacogpogplionaaRegTail
namespace Go.Proofs.Ytacogpogplionaa.DK
set_option maxRecDepth 100000
open Go.RowKit Go.Proofs.Ytacogpogplionaa.MI
set_option linter.unusedVariables false
set_option linter.unusedSimpArgs false

/-- A pointer to a new block. -/
def PtrAt (S : Nat) (t : TypeId) (cs : Array Value) (v : Value) (w : World) : Prop := ∃ x, v = .pointer (some ⟨x, 0, none⟩) ∧ Blk w x t cs ∧ S ≤ x
theorem stab_ptr (S : Nat) (t : TypeId) (cs : Array Value) : Stab (fun v w => PtrAt S t cs v w) := fun v w w' hb h => by
  obtain ⟨x, e, hx, hs⟩ := h
  exact ⟨x, e, hx.keeps (Keeps.of_below hb (fun _ => False)) id, hs⟩
theorem sect_cut {b : ByteArray} {k : Nat} : b.extract (k * 64) ((k + 1) * 64) = sect b k := rfl
section
variable {w w' : World} {B g N : Nat} {p : Pl} {D : Dk}
theorem one_end {wr W1 W2 W3 W4 : World} {p2 : Pl} {D2 : Dk} {N2 m c4 : Nat} {o : Obj} {a4 : Option Addr} (h2 : DiskAt wr B g p2 N2 D2) (n q : Int) (b : ByteArray) (hb : b.size = 64) (hq : 0 ≤ q ∧ q < 20000)
    (e1 : wr.setCell ⟨g, 2, none⟩ (.int .i64 ((D2.seq : Int) + 1)) = W1) (hB2 : Below W1.heap.size W1 W2) (hmN : m ≤ N2) (hm3 : MapAt scode Try.prog TI W3 p2.nb (m + 1) (putF D2.now q b)) (hg3 : W2.drew.grownBy W3 (some p2.nb))
    (ho4 : W4.ownsRow B TW 4 (.slice a4 (D2.waits.length + 1) c4) (D2.waits.length + 1) (D2.waits.flatMap wval ++ wval (oneW D2 n q b))) (hg4 : (W3.drew.alloc o).grownBy W4 (Value.slice p2.wa 0 0).ownBlock)
    (hat4 : (Value.slice a4 0 0).ownBlock = (Value.slice p2.wa 0 0).ownBlock ∨ (Value.slice a4 0 0).ownBlock = some (W3.drew.alloc o).heap.size) :
    W4.frozen? ⟨g, 5, none⟩ = false ∧ W4.cell? ⟨g, 5, none⟩ = some (.slice p2.wa D2.waits.length p2.wc) ∧ DiskOut wr B g p2 (N2 + 1) (oneK D2 n q b) (W4.setCell ⟨g, 5, none⟩ (.slice a4 (D2.waits.length + 1) c4)) := by
  have k1 : Keeps (only g) wr W1 := e1 ▸ keep1 wr g 2 _
  have b1 : Blk W1 g TD _ := e1 ▸ h2.blk.set_ 2 (.int .i64 ((D2.seq : Int) + 1))
  have k12 : Keeps (only g) wr W2 := k1.trans (Keeps.of_below hB2 (fun _ => False)) (fun _ _ h => h.elim)
  have k3 : Keeps (fun k => k = g ∨ k = p2.nb) wr W3 := ((k12.mono (S' := fun k => k = g ∨ k = p2.nb) (fun k _ e => .inl e)).drew).grown hg3 (fun k e _ => .inr (by injection e with e; exact e.symm))
  have kA : Keeps (fun k => k = g ∨ k = p2.nb ∨ (Value.slice p2.wa 0 0).ownBlock = some k) wr W4 := (((k3.mono (S' := fun k => k = g ∨ k = p2.nb ∨ (Value.slice p2.wa 0 0).ownBlock = some k) (fun k _ e => e.imp id .inl)).drew).alloc o).grown hg4 (fun k e _ => .inr (.inr e))
  have k4 : Keeps (fun k => (Value.slice p2.wa 0 0).ownBlock = some k) W3 W4 := (((Keeps.refl _ W3).drew).alloc o).grown hg4 (fun k e _ => e)
  have k5 := keep1 W4 g 5 (.slice a4 (D2.waits.length + 1) c4)
  have kE : Keeps (fun k => k = g ∨ k = p2.nb ∨ (Value.slice p2.wa 0 0).ownBlock = some k) wr (W4.setCell ⟨g, 5, none⟩ (.slice a4 (D2.waits.length + 1) c4)) := kA.trans k5 (fun _ _ e => .inl e)
  have hnw := h2.neW
  have b4 : Blk W4 g TD _ := (((b1.below hB2 b1.lt).drew.grown hg3 (by intro e; injection e with e; exact h2.neGN e.symm)).drew.alloc o).grown hg4 (by intro e; exact (hnw g e.symm).1 rfl)
  have b5 := b4.set_ 5 (.slice a4 (D2.waits.length + 1) c4)
  have hs3 : wr.heap.size ≤ (W3.drew.alloc o).heap.size := by have h1 := k3.size; have h2 : (W3.drew.alloc o).heap.size = W3.heap.size + 1 := Array.size_push _; omega
  have hnew : ∀ k, (Value.slice a4 0 0).ownBlock = some k → (Value.slice p2.wa 0 0).ownBlock = some k ∨ wr.heap.size ≤ k := by
    intro k hk
    rcases hat4 with e | e
    · exact .inl (e ▸ hk)
    · rw [hk] at e; injection e with e; exact .inr (by omega)
  refine ⟨b4.frozen 5, b4.cell 5, { p2 with wa := a4, wc := c4 }, ?_, kE.mono (fun k _ e => by rcases e with e | e | e; exact .inl e; exact .inr (.inl e); exact .inr (.inr (.inr e))), fun k hk => ?_, fun k hk => .inl hk⟩
  · obtain ⟨nl, hl1, hl2⟩ := h2.lasts
    have hlen : (oneK D2 n q b).waits.length = D2.waits.length + 1 := by unfold oneK; simp
    refine ⟨?_, ⟨m + 1, by omega, ?_⟩, ⟨nl, by rw [hlen]; omega, hl2.keeps kE ?_⟩, ?_, h2.stays.keeps (by decide) kE (fun ad e hs => h2.far _ ⟨ad, e, rfl⟩ (by rcases hs with e | e | e; exact .inl e; exact .inr (.inl e); exact .inr (.inr (.inr e)))), h2.sn, fun k hk1 hk2 => ?_, fun k hk => ⟨(h2.spl k hk).1, Nat.lt_of_lt_of_le (h2.spl k hk).2 kE.size⟩, h2.geg, h2.gen, h2.gel, h2.ne, ?_, h2.sane.one n q b hb hq⟩
    · rw [hlen]; exact b5
    · exact (hm3.keeps k4 (fun e => (hnw _ e).2.1 rfl)).setCell h2.neGN _
    · rintro (e | e | e)
      · exact h2.neGL e
      · exact h2.ne e.symm
      · exact (hnw _ e).2.2 rfl
    · rw [hlen, show (oneK D2 n q b).waits = D2.waits ++ [oneW D2 n q b] from rfl, List.flatMap_append]
      simp only [List.flatMap_cons, List.flatMap_nil, List.append_nil]
      exact own_keeps ho4 k5 (fun k hk e => by
        have h3 := own_ne ho4 b4 (show TW ≠ TD by decide)
        unfold only at e
        subst e
        exact h3 hk)
    · rcases hk2 with e | e | e | e
      · exact h2.far k hk1 (.inl e)
      · exact h2.far k hk1 (.inr (.inl e))
      · exact h2.far k hk1 (.inr (.inr (.inl e)))
      · rcases hnew k e with e | e
        · exact h2.far k hk1 (.inr (.inr (.inr e)))
        · have := (h2.spl k hk1).2; omega
    · have := h2.seq; show D2.seq + 1 ≤ N2 + 1; omega
  · rcases hk with e | e | e | e
    · exact .inl (.inl e)
    · exact .inl (.inr (.inl e))
    · exact .inl (.inr (.inr (.inl e)))
    · exact (hnew k e).imp (fun e => .inr (.inr (.inr e))) id
theorem many_room (D : Dk) (n a : Int) (b : ByteArray) (k : Nat) : (manyK D n a b k).room = D.room := by
  induction k with
  | zero => rfl
  | succ k ih => exact ih
set_option maxHeartbeats 4000000 in
theorem write_rounds {w1 : World} {p1 : Pl} {D1 : Dk} (h1 : DiskAt w1 B g p1 N D1) (n e q : Int) (b : ByteArray) (hN : N ≤ 100000000) (km : Calls Try.prog 38 #[.pointer (some ⟨g, 0, none⟩), .int .i64 n] w fun e' w' => e' = .returned (.int .i64 0) ∧ w' = w)
    (ka : Calls Try.prog 56 #[.pointer (some ⟨g, 0, none⟩), .int .i64 n, .int .u64 e] w fun e' w' => e' = .returned (.int .i64 0) ∧ w' = w)
    (kt : Calls Try.prog 45 #[.pointer (some ⟨g, 0, none⟩), .int .i64 q, .int .i64 ((b.size / 64 : Nat) : Int)] w fun e' w' => e' = .returned (.bool true) ∧ w' = w)
    (kg : Calls Try.prog 39 #[.pointer (some ⟨g, 0, none⟩)] w fun e' w' => e' = .returned (.bool false) ∧ w1 = w')
    (hb1 : 64 ≤ b.size) (hb2 : b.size / 64 ≤ 16) (hb3 : b.size % 64 = 0) (ha : 0 ≤ q ∧ q + ((b.size / 64 : Nat) : Int) ≤ 20000) :
    Calls Try.prog 42 #[.pointer (some ⟨g, 0, none⟩), .int .i64 n, .int .u64 e, .int .i64 q, .string b] w fun e' w' => e' = .returned (.int .i64 0) ∧ DiskOut w1 B g p1 (N + b.size / 64) (manyK D1 n q b (b.size / 64)) w' := by
  obtain ⟨i0, hi, hz0, hz1, hz2⟩ := info_parts infW
  have hsz : b.size < 2000 := by omega
  obtain ⟨c, hc⟩ : ∃ c, b.size / 64 = c := ⟨_, rfl⟩
  have hbs : b.size = c * 64 := by omega
  rw [hc] at kt ha ⊢
  have hqq : (b.size : Int).tdiv 64 = (c : Int) := by rw [Int.tdiv_eq_ediv_of_nonneg (by omega)]; omega
  have hm : (b.size : Int).tmod 64 = 0 := by rw [Int.tmod_eq_emod_of_nonneg (by omega)]; omega
  have hc1 : 1 ≤ c := by omega
  have hc2 : c ≤ 16 := by omega
  have H1 : Hid (DiskOut w1 B g p1 (N + 0) (manyK D1 n q b 0) w1) := Lib.hid h1.out
  have HSTAB : AllStab [] := allStab_nil
  clear hb1 hb2 hb3 hc h1
  go_enter Try.func42, Try.ntmps42
  go_wp2_with (first
    | (go_at_call 38; refine km.mono ?_; rintro e w0 ⟨rfl, rfl⟩)
    | (go_at_call 56; refine ka.mono ?_; rintro e w0 ⟨rfl, rfl⟩)
    | (go_at_call 45; refine kt.mono ?_; rintro e w0 ⟨rfl, rfl⟩)
    | (go_at_call 39; refine kg.mono ?_; rintro e w2 ⟨rfl, rfl⟩))
  clear km ka kt kg
  go_loopw [52] (fun i wr => ∃ k, k ≤ c ∧ i = .int .i64 (k : Int) ∧ Hid (DiskOut w1 B g p1 (N + k) (manyK D1 n q b k) wr)) (fun i _ => c - (intOf i).toNat)
  case atStart => exact ⟨0, Nat.zero_le _, rfl, H1⟩
  case round =>
    obtain ⟨k, hk, rfl, HR⟩ := hrel
    by_cases hlt : k < c
    · obtain ⟨p2, h2, k2, g2, s2⟩ := HR.out
      obtain ⟨s, hs⟩ : ∃ s, (manyK D1 n q b k).seq = s := ⟨_, rfl⟩
      have hsN : s ≤ N + k := by rw [← hs]; exact h2.seq
      have c2 : wr.cell? ⟨g, 2, none⟩ = some (.int .i64 (s : Int)) := by rw [← hs]; exact h2.blk.cell 2
      have f2 : wr.frozen? ⟨g, 2, none⟩ = false := h2.blk.frozen 2
      have e1 : IntKind.i64.wrap ((s : Int) + 1) = (s : Int) + 1 := IntWalk.i64_in _ (by omega)
      obtain ⟨W1, hW1⟩ : ∃ W1, wr.setCell ⟨g, 2, none⟩ (.int .i64 ((s : Int) + 1)) = W1 := ⟨_, rfl⟩
      have hb1 : Blk W1 g TD _ := hW1 ▸ h2.blk.set_ 2 (.int .i64 ((s : Int) + 1))
      have HC2 : Hid (W1.cell? ⟨g, 2, none⟩ = some (.int .i64 ((s : Int) + 1))) := Lib.hid (hb1.cell 2)
      have HLT : Hid (g < W1.heap.size) := Lib.hid hb1.lt
      have HSZ : Hid ((sect b k).size ≤ 281474976710656) := Lib.hid (by rw [sect_size (by omega)]; omega)
      have e2 : IntKind.i64.wrap (q + (k : Int)) = q + (k : Int) := IntWalk.i64_in _ (by omega)
      have e3 : IntKind.i64.wrap ((k : Int) * 64) = (k : Int) * 64 := IntWalk.i64_in _ (by omega)
      have e4 : IntKind.i64.wrap ((k : Int) + 1) = (k : Int) + 1 := IntWalk.i64_in _ (by omega)
      have e5 : IntKind.i64.wrap (((k : Int) + 1) * 64) = ((k : Int) + 1) * 64 := IntWalk.i64_in _ (by omega)
      have e6 : ((k : Int) * 64).toNat = k * 64 := by omega
      have e7 : (((k : Int) + 1) * 64).toNat = (k + 1) * 64 := by omega
      have i1 : (0 : Int) ≤ (k : Int) * 64 := by omega
      have i2 : (k : Int) * 64 ≤ ((k : Int) + 1) * 64 := by omega
      have i3 : ((k : Int) + 1) * 64 ≤ (b.size : Int) := by omega
      have hsl : ∀ w : World, (Instr.slice 9 (.string b) (some (.int .i64 ((k : Int) * 64))) (some (.int .i64 (((k : Int) + 1) * 64))) none).run Try.prog w = .ok (.string (sect b k)) w := fun w => by
        rw [run_slice_string (P := Try.prog) w _ b .i64 .i64 ((k : Int) * 64) (((k : Int) + 1) * 64) Try.underlying9 (by omega) (by omega) (by omega), e6, e7]; rfl
      have hst := stab_ptr W1.heap.size TW #[.int .i64 0, .int .i64 0, .int .i64 0, .string (ByteArray.mk #[])]
      have HH := Lib.hid h2
      have HB1 := Lib.hid hb1
      have HKC := Lib.hid (And.intro k2 (And.intro g2 s2))
      obtain ⟨mm, hmm1, hmm2⟩ := h2.now
      have HMM : Hid (MapAt scode Try.prog TI W1 p2.nb mm (manyK D1 n q b k).now) := Lib.hid (hW1 ▸ hmm2.setCell h2.neGN _)
      have HSEQ := Lib.hid hs
      have HW1 := Lib.hid hW1
      have HSC : Hid ((sect b k).size = 64) := Lib.hid (sect_size (by omega))
      have HWQ : Hid (WfI (q + (k : Int))) := Lib.hid (wfA ⟨by omega, by omega⟩)
      clear h2 k2 g2 s2 hb1 hs hmm2
      go_wp2_with fail
      clear hW1
      refine wp_region_tail 18 (fun i' v' w' => ([(fun v' _ => v' = (.int .i64 n)), (fun v' _ => v' = (.int .i64 q)), (fun v' _ => v' = (.int .i64 (k : Int))), (fun v' _ => v' = (.int .i64 (q + (k : Int)))), (fun v' _ => v' = (.pointer (some ⟨g, 0, none⟩))), (fun v' _ => v' = (.pointer (some ⟨g, 0, none⟩))), (fun v' _ => v' = (.pointer (some ⟨g, 2, none⟩))), (fun v' _ => v' = (.int .i64 ((s : Int) + 1))), (fun v' _ => v' = (.string b)), (fun v' _ => v' = (.int .i64 (k : Int))), (fun v' _ => v' = (.int .i64 ((k : Int) * 64))), (fun v' _ => v' = (.int .i64 (k : Int))), (fun v' _ => v' = (.int .i64 ((k : Int) + 1))), (fun v' _ => v' = (.int .i64 (((k : Int) + 1) * 64))), (fun v' _ => v' = (.string (sect b k))), (fun v' _ => v' = (.string (sect b k))), (fun v' _ => v' = (.agg #[.int .i64 n, .int .i64 (q + (k : Int)), .int .i64 ((s : Int) + 1), .string (sect b k)])), (fun v' w' => PtrAt W1.heap.size TW #[.int .i64 0, .int .i64 0, .int .i64 0, .string (ByteArray.mk #[])] v' w')] : List (Value → World → Prop)).getD i' (fun _ _ => True) v' w') (by kernel_rfl) (by rfl) (by rfl) (by kernel_rfl) (by kernel_rfl) (stab_list (by
          repeat (first | exact allStab_nil | refine allStab_cons (stab_eq _) ?_ | refine allStab_cons (stab_slice _ _) ?_ | (refine allStab_cons ?_ ?_; (with_reducible assumption))))) ?_ ?_
      · simp only [List.take_succ_cons, List.take_zero]
        refine steps_cons rfl ?_ ?_
        · intro a w hR K hK
          have e1 : a.tmps.getD 1 undef = (.int .i64 n) := hR.old 1 (by kernel_rfl) rfl
          rw [if_pos (wanted_none rfl)]
          have hB := hR.bel
          clear hR
          go_simp
          exact hK _ _ (belowSame _) rfl
        refine steps_cons rfl ?_ ?_
        · intro a w hR K hK
          have e3 : a.tmps.getD 3 undef = (.int .i64 q) := hR.old 3 (by kernel_rfl) rfl
          rw [if_pos (wanted_none rfl)]
          have hB := hR.bel
          clear hR
          go_simp
          exact hK _ _ (belowSame _) rfl
        refine steps_cons rfl ?_ ?_
        · intro a w hR K hK
          have e14 : a.tmps.getD 14 undef = (.int .i64 (k : Int)) := hR.old 14 (by kernel_rfl) rfl
          rw [if_pos (wanted_none rfl)]
          have hB := hR.bel
          clear hR
          go_simp
          exact hK _ _ (belowSame _) rfl
        refine steps_cons rfl ?_ ?_
        · intro a w hR K hK
          obtain ⟨v63, e63, _, q63⟩ := hR.val 1 63 (by kernel_rfl) (by kernel_rfl)
          obtain rfl : v63 = (.int .i64 q) := q63
          obtain ⟨v64, e64, _, q64⟩ := hR.val 2 64 (by kernel_rfl) (by kernel_rfl)
          obtain rfl : v64 = (.int .i64 (k : Int)) := q64
          rw [if_pos (wanted_none rfl)]
          have hB := hR.bel
          clear hR
          go_simp
          exact hK _ _ (belowSame _) rfl
        refine steps_cons rfl ?_ ?_
        · intro a w hR K hK
          have e0 : a.tmps.getD 0 undef = (.pointer (some ⟨g, 0, none⟩)) := hR.old 0 (by kernel_rfl) rfl
          rw [if_pos (wanted_none rfl)]
          have hB := hR.bel
          clear hR
          go_simp
          exact hK _ _ (belowSame _) rfl
        refine steps_cons rfl ?_ ?_
        · intro a w hR K hK
          obtain ⟨v66, e66, _, q66⟩ := hR.val 4 66 (by kernel_rfl) (by kernel_rfl)
          obtain rfl : v66 = (.pointer (some ⟨g, 0, none⟩)) := q66
          rw [if_pos (wanted_none rfl)]
          have hB := hR.bel
          clear hR
          go_simp
          exact hK _ _ (belowSame _) rfl
        refine steps_cons rfl ?_ ?_
        · intro a w hR K hK
          obtain ⟨v67, e67, _, q67⟩ := hR.val 5 67 (by kernel_rfl) (by kernel_rfl)
          obtain rfl : v67 = (.pointer (some ⟨g, 0, none⟩)) := q67
          rw [if_pos (wanted_none rfl)]
          have hB := hR.bel
          clear hR
          go_simp
          exact hK _ _ (belowSame _) rfl
        refine steps_cons rfl ?_ ?_
        · intro a w hR K hK
          obtain ⟨v68, e68, _, q68⟩ := hR.val 6 68 (by kernel_rfl) (by kernel_rfl)
          obtain rfl : v68 = (.pointer (some ⟨g, 2, none⟩)) := q68
          rw [if_pos (wanted_none rfl)]
          have hc := (hR.bel.cell (p := ⟨g, 2, none⟩) HLT.out).trans HC2.out
          clear hR
          go_simp
          exact hK _ _ (belowSame _) rfl
        refine steps_cons rfl ?_ ?_
        · intro a w hR K hK
          have e4 : a.tmps.getD 4 undef = (.string b) := hR.old 4 (by kernel_rfl) rfl
          rw [if_pos (wanted_none rfl)]
          have hB := hR.bel
          clear hR
          go_simp
          exact hK _ _ (belowSame _) rfl
        refine steps_cons rfl ?_ ?_
        · intro a w hR K hK
          have e14 : a.tmps.getD 14 undef = (.int .i64 (k : Int)) := hR.old 14 (by kernel_rfl) rfl
          rw [if_pos (wanted_none rfl)]
          have hB := hR.bel
          clear hR
          go_simp
          exact hK _ _ (belowSame _) rfl
        refine steps_cons rfl ?_ ?_
        · intro a w hR K hK
          obtain ⟨v71, e71, _, q71⟩ := hR.val 9 71 (by kernel_rfl) (by kernel_rfl)
          obtain rfl : v71 = (.int .i64 (k : Int)) := q71
          rw [if_pos (wanted_none rfl)]
          have hB := hR.bel
          clear hR
          go_simp
          exact hK _ _ (belowSame _) rfl
        refine steps_cons rfl ?_ ?_
        · intro a w hR K hK
          have e14 : a.tmps.getD 14 undef = (.int .i64 (k : Int)) := hR.old 14 (by kernel_rfl) rfl
          rw [if_pos (wanted_none rfl)]
          have hB := hR.bel
          clear hR
          go_simp
          exact hK _ _ (belowSame _) rfl
        refine steps_cons rfl ?_ ?_
        · intro a w hR K hK
          obtain ⟨v73, e73, _, q73⟩ := hR.val 11 73 (by kernel_rfl) (by kernel_rfl)
          obtain rfl : v73 = (.int .i64 (k : Int)) := q73
          rw [if_pos (wanted_none rfl)]
          have hB := hR.bel
          clear hR
          go_simp
          exact hK _ _ (belowSame _) rfl
        refine steps_cons rfl ?_ ?_
        · intro a w hR K hK
          obtain ⟨v74, e74, _, q74⟩ := hR.val 12 74 (by kernel_rfl) (by kernel_rfl)
          obtain rfl : v74 = (.int .i64 ((k : Int) + 1)) := q74
          rw [if_pos (wanted_none rfl)]
          have hB := hR.bel
          clear hR
          go_simp
          exact hK _ _ (belowSame _) rfl
        refine steps_cons rfl ?_ ?_
        · intro a w hR K hK
          obtain ⟨v70, e70, _, q70⟩ := hR.val 8 70 (by kernel_rfl) (by kernel_rfl)
          obtain rfl : v70 = (.string b) := q70
          obtain ⟨v72, e72, _, q72⟩ := hR.val 10 72 (by kernel_rfl) (by kernel_rfl)
          obtain rfl : v72 = (.int .i64 ((k : Int) * 64)) := q72
          obtain ⟨v75, e75, _, q75⟩ := hR.val 13 75 (by kernel_rfl) (by kernel_rfl)
          obtain rfl : v75 = (.int .i64 (((k : Int) + 1) * 64)) := q75
          rw [if_pos (wanted_none rfl)]
          have hB := hR.bel
          clear hR
          go_simp
          exact hK _ _ (belowSame _) rfl
        refine steps_cons rfl ?_ ?_
        · intro a w hR K hK
          obtain ⟨v76, e76, _, q76⟩ := hR.val 14 76 (by kernel_rfl) (by kernel_rfl)
          obtain rfl : v76 = (.string (sect b k)) := q76
          rw [if_pos (wanted_none rfl)]
          have hB := hR.bel
          clear hR
          go_simp
          refine (strClone_any _ _ HSZ.out).mono ?_
          rintro e w' ⟨rfl, hw⟩
          exact hK _ _ (by first | exact belowOfEq hw | exact hw) rfl
        refine steps_cons rfl ?_ ?_
        · intro a w hR K hK
          obtain ⟨v62, e62, _, q62⟩ := hR.val 0 62 (by kernel_rfl) (by kernel_rfl)
          obtain rfl : v62 = (.int .i64 n) := q62
          obtain ⟨v65, e65, _, q65⟩ := hR.val 3 65 (by kernel_rfl) (by kernel_rfl)
          obtain rfl : v65 = (.int .i64 (q + (k : Int))) := q65
          obtain ⟨v69, e69, _, q69⟩ := hR.val 7 69 (by kernel_rfl) (by kernel_rfl)
          obtain rfl : v69 = (.int .i64 ((s : Int) + 1)) := q69
          obtain ⟨v77, e77, _, q77⟩ := hR.val 15 77 (by kernel_rfl) (by kernel_rfl)
          obtain rfl : v77 = (.string (sect b k)) := q77
          rw [if_pos (wanted_none rfl)]
          have hB := hR.bel
          clear hR
          go_simp
          exact hK _ _ (belowSame _) rfl
        refine steps_cons rfl ?_ ?_
        · intro a w hR K hK
          rw [if_pos (wanted_none rfl)]
          have hs := hR.bel.size
          clear hR
          go_simp
          exact hK _ _ (belowNew (belowSame _) _) ⟨_, rfl, Blk.new _ _ _, hs⟩
        exact steps_nil
      · intro a w' hR K hK
        obtain ⟨v15, e15, _, q15⟩ := hR.val 17 15 (by decide) (by kernel_rfl)
        obtain ⟨v78, e78, _, q78⟩ := hR.val 16 78 (by decide) (by kernel_rfl)
        obtain rfl : v78 = (.agg #[.int .i64 n, .int .i64 (q + (k : Int)), .int .i64 ((s : Int) + 1), .string (sect b k)]) := q78
        rw [if_pos (wanted_none rfl)]
        obtain ⟨x15, rfl, b15, hx15⟩ := q15
        have f0 := b15.frozen 0
        have f1 := b15.frozen 1
        have f2 := b15.frozen 2
        have f3 := b15.frozen 3
        have d0 := b15.cell 0
        have d1 := b15.cell 1
        have d2 := b15.cell 2
        have d3 := b15.cell 3
        have hB := belowUndrew hR.bel
        have hf := hR.frame
        rw [show dsts _ = [62, 63, 64, 65, 66, 67, 68, 69, 70, 71, 72, 73, 74, 75, 76, 77, 78, 15] from by kernel_rfl] at hf
        obtain ⟨z62, h62⟩ : ∃ z, a.tmps.getD 62 undef = z := ⟨_, rfl⟩
        obtain ⟨z63, h63⟩ : ∃ z, a.tmps.getD 63 undef = z := ⟨_, rfl⟩
        obtain ⟨z64, h64⟩ : ∃ z, a.tmps.getD 64 undef = z := ⟨_, rfl⟩
        obtain ⟨z65, h65⟩ : ∃ z, a.tmps.getD 65 undef = z := ⟨_, rfl⟩
        obtain ⟨z66, h66⟩ : ∃ z, a.tmps.getD 66 undef = z := ⟨_, rfl⟩
        obtain ⟨z67, h67⟩ : ∃ z, a.tmps.getD 67 undef = z := ⟨_, rfl⟩
        obtain ⟨z68, h68⟩ : ∃ z, a.tmps.getD 68 undef = z := ⟨_, rfl⟩
        obtain ⟨z69, h69⟩ : ∃ z, a.tmps.getD 69 undef = z := ⟨_, rfl⟩
        obtain ⟨z70, h70⟩ : ∃ z, a.tmps.getD 70 undef = z := ⟨_, rfl⟩
        obtain ⟨z71, h71⟩ : ∃ z, a.tmps.getD 71 undef = z := ⟨_, rfl⟩
        obtain ⟨z72, h72⟩ : ∃ z, a.tmps.getD 72 undef = z := ⟨_, rfl⟩
        obtain ⟨z73, h73⟩ : ∃ z, a.tmps.getD 73 undef = z := ⟨_, rfl⟩
        obtain ⟨z74, h74⟩ : ∃ z, a.tmps.getD 74 undef = z := ⟨_, rfl⟩
        obtain ⟨z75, h75⟩ : ∃ z, a.tmps.getD 75 undef = z := ⟨_, rfl⟩
        obtain ⟨z76, h76⟩ : ∃ z, a.tmps.getD 76 undef = z := ⟨_, rfl⟩
        obtain ⟨z77, h77⟩ : ∃ z, a.tmps.getD 77 undef = z := ⟨_, rfl⟩
        simp only [List.foldl_cons, List.foldl_nil, h62, h63, h64, h65, h66, h67, h68, h69, h70, h71, h72, h73, h74, h75, h76, h77, e15, e78] at hf
        simp only [List.setIfInBounds_toArray, List.set_cons_zero, List.set_cons_succ] at hf
        clear hR h62 h63 h64 h65 h66 h67 h68 h69 h70 h71 h72 h73 h74 h75 h76 h77
        go_simp
        refine hK _ _ ?_
        clear hK K e15 e78
        subst hf
        have hB2 : Below W1.heap.size W1 ((((w'.setCell ⟨x15, 0, none⟩ (.int .i64 n)).setCell ⟨x15, 1, none⟩ (.int .i64 (q + (k : Int)))).setCell ⟨x15, 2, none⟩ (.int .i64 ((s : Int) + 1))).setCell ⟨x15, 3, none⟩ (.string (sect b k))) :=
          (((hB.setCell (p := ⟨x15, 0, none⟩) hx15 _).setCell (p := ⟨x15, 1, none⟩) hx15 _).setCell (p := ⟨x15, 2, none⟩) hx15 _).setCell (p := ⟨x15, 3, none⟩) hx15 _
        have hbx : Blk ((((w'.setCell ⟨x15, 0, none⟩ (.int .i64 n)).setCell ⟨x15, 1, none⟩ (.int .i64 (q + (k : Int)))).setCell ⟨x15, 2, none⟩ (.int .i64 ((s : Int) + 1))).setCell ⟨x15, 3, none⟩ (.string (sect b k))) x15 TW #[.int .i64 n, .int .i64 (q + (k : Int)), .int .i64 ((s : Int) + 1), .string (sect b k)] := (((b15.set_ 0 _).set_ 1 _).set_ 2 _).set_ 3 _
        clear hB b15 f0 f1 f2 f3 d0 d1 d2 d3
        generalize ((((w'.setCell ⟨x15, 0, none⟩ (.int .i64 n)).setCell ⟨x15, 1, none⟩ (.int .i64 (q + (k : Int)))).setCell ⟨x15, 2, none⟩ (.int .i64 ((s : Int) + 1))).setCell ⟨x15, 3, none⟩ (.string (sect b k))) = W2 at hB2 hbx ⊢
        have g3 : W2.cell? ⟨g, 3, none⟩ = some (.map (some p2.nb)) := (HB1.out.below hB2 HLT.out).cell 3
        have y1 := hbx.cell 1
        have y3 := hbx.cell 3
        have HM2 := Lib.hid (HMM.out.keeps (Keeps.of_below hB2 (fun _ => False)) id)
        have HB2 := Lib.hid hB2
        have HBX := Lib.hid hbx
        clear hB2 hbx
        go_wp2_with fail
        go_still_tail 8, (by kernel_rfl)
        go_wp2_with (at_mapUpdate; refine wp_store _ rfl _ _ _ 59 rfl TI 9 underI underN p2.nb mm _ rfl (show MapAt scode Try.prog TI _ p2.nb mm _ from HM2.out.drew) (by unfold maxLen; omega) (q + (k : Int)) (sect b k) rfl HWQ.out rfl ?_; intro W3 hm3 hg3; have HM3 := Lib.hid hm3; have HG3 := Lib.hid (show W2.drew.grownBy W3 (some p2.nb) from hg3); clear hm3 hg3)
        go_frame
        obtain ⟨len, hlen⟩ : ∃ len, (manyK D1 n q b k).waits.length = len := ⟨_, rfl⟩
        have hk3 : Keeps (fun k => k = p2.nb) W1 W3 := ((Keeps.of_below HB2.out (fun k => k = p2.nb)).drew).grown HG3.out (fun k e _ => by injection e with e; exact e.symm)
        have hgn := HH.out.neGN
        have hb3 := HB1.out.keeps hk3 (fun e => hgn e.symm)
        have c5 : W3.cell? ⟨g, 5, none⟩ = some (.slice p2.wa len p2.wc) := by rw [← hlen]; exact hb3.cell 5
        have f5 : W3.frozen? ⟨g, 5, none⟩ = false := hb3.frozen 5
        have hxn : x15 ≠ p2.nb := by have h1 := HMM.out.lt; omega
        have hbx3 : Blk W3 x15 TW _ := HBX.out.drew.grown HG3.out (by intro e; injection e with e; exact hxn e)
        have y0 := hbx3.cell 0
        have y1 := hbx3.cell 1
        have y2 := hbx3.cell 2
        have y3 := hbx3.cell 3
        have hown : W3.ownsRow B TW 4 (.slice p2.wa len p2.wc) len ((manyK D1 n q b k).waits.flatMap wval) := by
          rw [← hlen]
          refine own_keeps (own_keeps HH.out.waits (HW1.out ▸ keep1 wr g 2 _) (fun k hk e => ?_)) hk3 (fun k hk e => ?_)
          · exact (HH.out.neW k (by rw [own_blk] at hk; exact hk)).1 e
          · exact (HH.out.neW k (by rw [own_blk] at hk; exact hk)).2.1 e
        have hlenN : len ≤ N + k := by rw [← hlen]; obtain ⟨nl, h1, _⟩ := HH.out.lasts; omega
        have hBg : B ≤ g := HH.out.geg
        have hgW : g < W3.heap.size := hb3.lt
        have O3 := Lib.hid (own_keeps (w' := W3.drew.alloc (.cells #[.int .i64 n, .int .i64 (q + (k : Int)), .int .i64 ((s : Int) + 1), .string (sect b k)] 103)) hown (((Keeps.refl (fun _ => False) W3).drew).alloc _) (fun _ _ h => h))
        have L3 := Lib.hid (show Lies (W3.drew.alloc (.cells #[.int .i64 n, .int .i64 (q + (k : Int)), .int .i64 ((s : Int) + 1), .string (sect b k)] 103)) 4 (some ⟨W3.heap.size, 0, none⟩) 1 (wval ⟨n, q + (k : Int), (s : Int) + 1, sect b k⟩) from lies_one W3.drew ⟨n, q + (k : Int), (s : Int) + 1, sect b k⟩)
        have hfin : ∀ (W4 : World) (a4 : Option Addr) (c4 : Nat), W4.ownsRow B TW 4 (.slice a4 (len + 1) c4) (len + 1) ((manyK D1 n q b k).waits.flatMap wval ++ wval ⟨n, q + (k : Int), (s : Int) + 1, sect b k⟩) →
            (W3.drew.alloc (.cells #[.int .i64 n, .int .i64 (q + (k : Int)), .int .i64 ((s : Int) + 1), .string (sect b k)] 103)).grownBy W4 (Value.slice p2.wa 0 0).ownBlock →
            ((Value.slice a4 0 0).ownBlock = (Value.slice p2.wa 0 0).ownBlock ∨ (Value.slice a4 0 0).ownBlock = some (W3.drew.alloc (.cells #[.int .i64 n, .int .i64 (q + (k : Int)), .int .i64 ((s : Int) + 1), .string (sect b k)] 103)).heap.size) →
            W4.frozen? ⟨g, 5, none⟩ = false ∧ W4.cell? ⟨g, 5, none⟩ = some (.slice p2.wa len p2.wc) ∧ Hid (DiskOut w1 B g p1 (N + (k + 1)) (manyK D1 n q b (k + 1)) (W4.setCell ⟨g, 5, none⟩ (.slice a4 (len + 1) c4))) := by
          intro W4 a4 c4 ho hg4 hat
          have := one_end (B := B) (m := mm) HH.out n (q + (k : Int)) (sect b k) HSC.out (by omega) (by rw [HSEQ.out]; exact HW1.out) HB2.out hmm1 HM3.out HG3.out (o := .cells #[.int .i64 n, .int .i64 (q + (k : Int)), .int .i64 ((s : Int) + 1), .string (sect b k)] 103) (W4 := W4) (a4 := a4) (c4 := c4) (by rw [hlen]; unfold oneW; rw [HSEQ.out]; exact ho) hg4 hat
          rw [hlen] at this
          obtain ⟨h5, h6, h7⟩ := this
          exact ⟨h5, h6, Lib.hid (DiskOut.comp HKC.out.1 HKC.out.2.1 HKC.out.2.2 h7)⟩
        have HF := Lib.hid hfin
        have hW3B : B ≤ (W3.drew.alloc (.cells #[.int .i64 n, .int .i64 (q + (k : Int)), .int .i64 ((s : Int) + 1), .string (sect b k)] 103)).heap.size := by
          have : (W3.drew.alloc (.cells #[.int .i64 n, .int .i64 (q + (k : Int)), .int .i64 ((s : Int) + 1), .string (sect b k)] 103)).heap.size = W3.heap.size + 1 := Array.size_push _
          omega
        clear hfin hown hb3 hbx3 hk3 hlen hgn hmm1 hst
        go_region_law (refine step_append_lie _ rfl (.tmp 91) (.tmp 93) 61 rfl B TW i0 _ 4 40 Try.underlying61 hi hz0 hz1 hz2 rfl (by decide) p2.wa len p2.wc _ (by go_simp) O3.out (some ⟨W3.heap.size, 0, none⟩) 1 1 _ (by go_simp) L3.out (wval_one _) (by unfold maxLen; omega) (by omega) hW3B ?_; intro a4 c4 W4 ho4 hg4 hat4; obtain ⟨f6, d6, R4⟩ := HF.out W4 a4 c4 ho4 hg4 hat4; clear ho4 hg4 hat4)
        all_goals
          go_wp2_with fail
          go_roundw
          case rel => exact ⟨k + 1, by omega, by go_num, R4⟩
          case measure => simp [intOf]; omega

    · obtain rfl : k = c := by omega
      go_wp2
      go_ret
      exact ⟨rfl, HR.out⟩
/-- Write, its ways that are no rounds: where it refuses, or the power goes. -/
theorem write_no (h : DiskAt w B g p N D) (n e q : Int) (b : ByteArray) (hsz : b.size ≤ 1000000) (hN : N ≤ 100000000) (hno : ¬ (mayK D n = 0 ∧ argB b = true ∧ admK D n e = 0 ∧ thereK D q ((b.size / 64 : Nat) : Int) = true ∧ goesB D = false)) :
    Calls Try.prog 42 #[.pointer (some ⟨g, 0, none⟩), .int .i64 n, .int .u64 e, .int .i64 q, .string b] w fun e' w' => e' = .returned (.int .i64 (writeE D n e q b)) ∧ DiskOut w B g p N (writeK D n e q b) w' := by
  have km := may_any h n
  have hq : (b.size : Int).tdiv 64 = ((b.size / 64 : Nat) : Int) := by rw [Int.tdiv_eq_ediv_of_nonneg (by omega)]; omega
  have hm : (b.size : Int).tmod 64 = ((b.size % 64 : Nat) : Int) := by rw [Int.tmod_eq_emod_of_nonneg (by omega)]; omega
  by_cases hm0 : mayK D n = 0
  · rw [hm0] at km
    have hin := may_in hm0
    by_cases ha : argB b = true
    · have hB : 64 ≤ b.size ∧ b.size / 64 ≤ 16 ∧ b.size % 64 = 0 := by unfold argB at ha; simp at ha; omega
      rw [hB.2.2] at hm
      obtain ⟨c, hc⟩ : ∃ c, b.size / 64 = c := ⟨_, rfl⟩
      have hbs : b.size = c * 64 := by omega
      rw [hc] at hq hno
      have hc1 : 1 ≤ c := by omega
      have hc2 : c ≤ 16 := by omega
      have kd := admits_any h n e hin
      by_cases hd : admK D n e = 0
      · rw [hd] at kd
        have kt := there_any h q ((c : Nat) : Int)
        cases ht : thereK D q ((c : Nat) : Int)
        · have r1 : writeE D n e q b = 30 := by unfold writeE; rw [if_pos hm0, if_pos ha, if_pos hd, hc, ht]; rfl
          have r2 : writeK D n e q b = D := by unfold writeK; rw [hc, if_neg (fun x => by rw [ht] at x; exact absurd x.2.2.2 (by decide))]
          rw [r1, r2]
          rw [ht] at kt
          have H := Lib.hid h.out
          clear h r1 r2 hno hd ha hB hc hm0 ht
          go_enter Try.func42, Try.ntmps42
          go_wp2_with (first
            | (go_at_call 38; refine km.mono ?_; rintro e w0 ⟨rfl, rfl⟩)
            | (go_at_call 56; refine kd.mono ?_; rintro e w0 ⟨rfl, rfl⟩)
            | (go_at_call 45; refine kt.mono ?_; rintro e w0 ⟨rfl, rfl⟩))
          go_ret
          exact ⟨rfl, H.out⟩
        · have kg := goes_any h (by omega)
          cases hg : goesB D
          · exact absurd ⟨hm0, ha, hd, ht, hg⟩ hno
          · have r1 : writeE D n e q b = 14 := by unfold writeE; rw [if_pos hm0, if_pos ha, if_pos hd, hc, ht, hg]; rfl
            have r2 : writeK D n e q b = goesK D := by unfold writeK; rw [hc, if_pos ⟨hm0, ha, hd, ht⟩, hg]; rfl
            rw [r1, r2]
            rw [ht] at kt
            rw [hg] at kg
            clear h r1 r2 hno hd ha hB hc hm0 ht hg
            go_enter Try.func42, Try.ntmps42
            go_wp2_with (first
              | (go_at_call 38; refine km.mono ?_; rintro e w0 ⟨rfl, rfl⟩)
              | (go_at_call 56; refine kd.mono ?_; rintro e w0 ⟨rfl, rfl⟩)
              | (go_at_call 45; refine kt.mono ?_; rintro e w0 ⟨rfl, rfl⟩)
              | (go_at_call 39; refine kg.mono ?_; rintro e w1 ⟨rfl, ho⟩; have HO := Lib.hid ho; clear ho kg))
            go_ret
            exact ⟨rfl, HO.out⟩
      · have ha' : admK D n e = 34 := by unfold admK at hd ⊢; split at hd <;> simp_all
        have r1 : writeE D n e q b = 34 := by unfold writeE; rw [if_pos hm0, if_pos ha, if_neg hd]
        have r2 : writeK D n e q b = D := by unfold writeK; rw [if_neg (fun x => hd x.2.2.1)]
        rw [r1, r2]
        rw [ha'] at kd
        have H := Lib.hid h.out
        clear h r1 r2 hno hd ha hB hc hm0 ha'
        go_enter Try.func42, Try.ntmps42
        go_wp2_with (first
          | (go_at_call 38; refine km.mono ?_; rintro e w0 ⟨rfl, rfl⟩)
          | (go_at_call 56; refine kd.mono ?_; rintro e w0 ⟨rfl, rfl⟩))
        go_ret
        exact ⟨rfl, H.out⟩
    · have r1 : writeE D n e q b = 1 := by unfold writeE; rw [if_pos hm0, if_neg ha]
      have r2 : writeK D n e q b = D := by unfold writeK; rw [if_neg (fun x => ha x.2.1)]
      rw [r1, r2]
      have hcs : b.size / 64 < 1 ∨ (1 ≤ b.size / 64 ∧ 16 < b.size / 64) ∨ (1 ≤ b.size / 64 ∧ b.size / 64 ≤ 16 ∧ b.size % 64 ≠ 0) := by unfold argB at ha; simp at ha; omega
      obtain ⟨c, hc⟩ : ∃ c, b.size / 64 = c := ⟨_, rfl⟩
      obtain ⟨m, hmm⟩ : ∃ m, b.size % 64 = m := ⟨_, rfl⟩
      have hcb : c ≤ 1000000 := by omega
      have hcb2 : (c : Int) ≤ 1000000 := by omega
      rw [hc] at hq hcs
      rw [hmm] at hm hcs
      have H := Lib.hid h.out
      clear h r1 r2 hno ha hc hmm hm0
      rcases hcs with h1 | ⟨h1, h2⟩ | ⟨h1, h2, h3⟩
      · have b1 : decide ((c : Int) < 1) = true := by simp; omega
        go_enter Try.func42, Try.ntmps42
        go_wp2_with (go_at_call 38; refine km.mono ?_; rintro e w0 ⟨rfl, rfl⟩)
        go_ret
        exact ⟨rfl, H.out⟩
      · have b1 : decide ((c : Int) < 1) = false := by simp; omega
        have b2 : decide (16 < (c : Int)) = true := by simp; omega
        go_enter Try.func42, Try.ntmps42
        go_wp2_with (go_at_call 38; refine km.mono ?_; rintro e w0 ⟨rfl, rfl⟩)
        go_ret
        exact ⟨rfl, H.out⟩
      · have b1 : decide ((c : Int) < 1) = false := by simp; omega
        have b2 : decide (16 < (c : Int)) = false := by simp; omega
        have b3 : ((m : Int) != 0) = true := by simp; omega
        go_enter Try.func42, Try.ntmps42
        go_wp2_with (go_at_call 38; refine km.mono ?_; rintro e w0 ⟨rfl, rfl⟩)
        go_ret
        exact ⟨rfl, H.out⟩
  · have r1 : writeE D n e q b = mayK D n := by unfold writeE; rw [if_neg hm0]
    have r2 : writeK D n e q b = D := by unfold writeK; rw [if_neg (fun x => hm0 x.1)]
    rw [r1, r2]
    obtain ⟨v, hv⟩ : ∃ v, mayK D n = v := ⟨_, rfl⟩
    rw [hv] at km hm0 ⊢
    have b1 : (v != 0) = true := by simpa using hm0
    have H := Lib.hid h.out
    clear r1 r2 hm0 h hv hno hm hq
    go_enter Try.func42, Try.ntmps42
    go_wp2_with (go_at_call 38; refine km.mono ?_; rintro e w0 ⟨rfl, rfl⟩)
    go_ret
    exact ⟨rfl, H.out⟩
/-- A disk's goes that does not take the power. -/
theorem goes_on (h : DiskAt w B g p N D) (hN : N ≤ 100000000) (hg : goesB D = false) : ∃ w1, Calls Try.prog 39 #[.pointer (some ⟨g, 0, none⟩)] w (fun e' w' => e' = .returned (.bool false) ∧ w1 = w') ∧ DiskOut w B g p N (goesK D) w1 := by
  have c9 : w.cell? ⟨g, 41, none⟩ = some (.bool D.armed) := h.blk.cell 41
  have c10 : w.cell? ⟨g, 42, none⟩ = some (.int .i64 D.left) := h.blk.cell 42
  have f10 : w.frozen? ⟨g, 42, none⟩ = false := h.blk.frozen 42
  have hle := h.sane.left
  cases ha : D.armed
  · have h2 : goesK D = D := by unfold goesK; rw [ha]; rfl
    rw [h2]
    refine ⟨w, ?_, h.out⟩
    rw [ha] at c9
    clear h h2 ha hg
    go_enter Try.func39, Try.ntmps39
    go_wp2
    go_ret
    exact ⟨rfl, rfl⟩
  · have hl : 0 < D.left := by unfold goesB at hg; rw [ha] at hg; simpa using hg
    have h2 : goesK D = { D with left := D.left - 1 } := by unfold goesK; rw [ha]; simp [hl]
    have b1 : decide (0 < D.left) = true := by simpa using hl
    have e1 : IntKind.i64.wrap (D.left - 1) = D.left - 1 := IntWalk.i64_in _ (by omega)
    rw [h2]
    rw [ha] at c9
    have ho : DiskOut w B g p N { D with left := D.left - 1 } (w.setCell ⟨g, 42, none⟩ (.int .i64 (D.left - 1))) :=
      h.turnOut (keep1 w g 42 _) (h.blk.set_ 42 _) rfl rfl rfl rfl h.seq ⟨h.sane.room, h.sane.now, h.sane.lasts, h.sane.waits, by show D.left - 1 ≤ _; omega⟩
    refine ⟨_, ?_, ho⟩
    clear h h2 ha ho hg
    go_enter Try.func39, Try.ntmps39
    go_wp2
    go_ret
    exact ⟨rfl, rfl⟩
theorem write_any (h : DiskAt w B g p N D) (n e q : Int) (b : ByteArray) (hsz : b.size ≤ 1000000) (hN : N ≤ 10000000) :
    Calls Try.prog 42 #[.pointer (some ⟨g, 0, none⟩), .int .i64 n, .int .u64 e, .int .i64 q, .string b] w fun e' w' => e' = .returned (.int .i64 (writeE D n e q b)) ∧ DiskOut w B g p (N + 16) (writeK D n e q b) w' := by
  by_cases hy : mayK D n = 0 ∧ argB b = true ∧ admK D n e = 0 ∧ thereK D q ((b.size / 64 : Nat) : Int) = true ∧ goesB D = false
  · obtain ⟨h1, h2, h3, h4, h5⟩ := hy
    obtain ⟨w1, kg, ho⟩ := goes_on h (by omega) h5
    obtain ⟨p1, d1, k1, g1, s1⟩ := ho
    have km := may_any h n
    have ka := admits_any h n e (may_in h1)
    have kt := there_any h q ((b.size / 64 : Nat) : Int)
    rw [h1] at km
    rw [h3] at ka
    rw [h4] at kt
    have hB : 64 ≤ b.size ∧ b.size / 64 ≤ 16 ∧ b.size % 64 = 0 := by unfold argB at h2; simp at h2; omega
    have hr := h.sane.room
    have hq : 0 ≤ q ∧ q + ((b.size / 64 : Nat) : Int) ≤ 20000 := by unfold thereK at h4; simp at h4; omega
    have r1 : writeE D n e q b = 0 := by unfold writeE; rw [if_pos h1, if_pos h2, if_pos h3, h4, h5]; rfl
    have r2 : writeK D n e q b = manyK (goesK D) n q b (b.size / 64) := by unfold writeK; rw [if_pos ⟨h1, h2, h3, h4⟩, h5]; rfl
    rw [r1, r2]
    refine (write_rounds d1 n e q b (by omega) km ka kt kg hB.1 hB.2.1 hB.2.2 hq).mono fun e' w' ⟨he, ho⟩ => ⟨he, ?_⟩
    exact (DiskOut.comp k1 g1 s1 ho).mono (by omega)
  · exact (write_no h n e q b hsz (by omega) hy).mono fun e' w' ⟨he, ho⟩ => ⟨he, ho.mono (by omega)⟩
end
end Go.Proofs.Ytacogpogplionaa.DK

