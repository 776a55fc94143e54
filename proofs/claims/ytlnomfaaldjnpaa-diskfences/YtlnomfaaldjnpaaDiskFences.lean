/- DiskFences: the walk. No condition. -/
import Derived.Test.YtlnomfaaldjnpaaDkOps
import Derived.Deep.CutBlock
import Derived.Deep.Cut
namespace Go.Proofs.Ytlnomfaaldjnpaa.diskFences
open Go.RowKit Go.Proofs.Ytlnomfaaldjnpaa.DK Go.Proofs.Ytlnomfaaldjnpaa.MI
set_option linter.unusedVariables false
set_option linter.unusedSimpArgs false

def fD1 : Dk := admitK (newK 4) 1 7
def fD2 (a : ByteArray) : Dk := oneK fD1 1 0 a
def fD3 (a : ByteArray) : Dk := { settleK (fD2 a) 1 with table := updF (fD2 a).table 1 0 }
def fE (a : ByteArray) : Dk := restoreK (cutK (fD3 a) [])
theorem fD1_eq : admitE (newK 4) 1 7 = 0 ∧ admitK (newK 4) 1 7 = fD1 := ⟨by kernel_rfl, rfl⟩
theorem fD2_eq (a : ByteArray) (h : a.size = 64) : writeE fD1 1 7 0 a = 0 ∧ writeK fD1 1 7 0 a = fD2 a := write_one (by kernel_rfl) (by kernel_rfl) (by kernel_rfl) (by kernel_rfl) (by decide) h (by decide) (by decide +kernel)
theorem fD3_eq (a : ByteArray) : fenceE (fD2 a) 1 = 0 ∧ fenceK (fD2 a) 1 = fD3 a := fence_good (by kernel_rfl) (by kernel_rfl) (by kernel_rfl)
theorem may3 (a : ByteArray) : mayK (fD3 a) 1 = 0 := by kernel_rfl
theorem adm3 (a : ByteArray) : admK (fD3 a) 1 7 = 34 := by kernel_rfl
theorem wr3 (a : ByteArray) (q : Int) (b : ByteArray) : writeE (fD3 a) 1 7 q b = 34 ∨ writeE (fD3 a) 1 7 q b = 1 := by
  unfold writeE
  rw [if_pos (may3 a), adm3]
  cases argB b
  · exact .inr rfl
  · exact .inl rfl
theorem fRead (a : ByteArray) : readE (fE a) 0 1 = 0 ∧ readT (fE a) 0 1 = a := read_one (by kernel_rfl) (by kernel_rfl)
theorem fE_plain (a : ByteArray) : (fE a).on = true ∧ (fE a).armed = false ∧ (fE a).last = 7 := ⟨by kernel_rfl, by kernel_rfl, by kernel_rfl⟩
section
variable {w w' : World} {B g N : Nat} {p : Pl} {D : Dk}
theorem barrier_ref (h : DiskAt w B g p N D) (n e : Int) (h1 : mayK D n = 0) (h2 : admK D n e = 34) :
    Calls Try.prog 24 #[.pointer (some ⟨g, 0, none⟩), .int .i64 n, .int .u64 e] w fun e' w' => e' = .returned (.int .i64 34) ∧ w' = w := by
  have km := may_any h n
  have kd := admits_any h n e (may_in h1)
  rw [h1] at km
  rw [h2] at kd
  clear h h1 h2
  go_enter Try.func24, Try.ntmps24
  go_wp2_with (first
    | (go_at_call 34; refine km.mono ?_; rintro e w0 ⟨rfl, rfl⟩)
    | (go_at_call 36; refine kd.mono ?_; rintro e w0 ⟨rfl, rfl⟩))
  go_ret
  exact ⟨rfl, rfl⟩
end
/-- What the rounds of epochs have. -/
structure Ad (w : World) (g : Nat) (l : Int) (wr : World) : Prop where
  ex : ∃ D, Own w g 16 D wr ∧ D.on = true ∧ D.armed = false ∧ D.last = l
theorem Ad.then_ {w wr w' : World} {g : Nat} {l : Int} (h : Ad w g l wr) (hb : Below wr.heap.size wr w') : Ad w g l w' := by
  obtain ⟨D, h1, h2⟩ := h.ex
  exact ⟨D, h1.then_ hb, h2⟩
theorem Ad.bel {w wr : World} {g : Nat} {l : Int} (h : Ad w g l wr) : Below w.heap.size w wr := by
  obtain ⟨D, h1, h2⟩ := h.ex
  exact h1.bel
theorem Ad.last {w wr : World} {g : Nat} {l : Int} (h : Ad w g l wr) : Calls Try.prog 23 #[.pointer (some ⟨g, 0, none⟩)] wr fun e w' => e = .returned (.int .u64 l) ∧ w' = wr := by
  obtain ⟨D, h1, h2, h3, h4⟩ := h.ex
  have := own_last h1
  rwa [h4] at this
theorem Ad.yes {w wr : World} {g : Nat} {l e : Int} (h : Ad w g l wr) (n : Int) (hn : inNode n = true) (he : l < e) :
    Calls Try.prog 14 #[.pointer (some ⟨g, 0, none⟩), .int .i64 n, .int .u64 e] wr fun e' w' => e' = .returned (.int .i64 0) ∧ Ad w g e w' := by
  obtain ⟨D, h1, h2, h3, h4⟩ := h.ex
  have hg := admit_good (n := n) (e := e) h2 hn h3 (by rw [h4]; exact he)
  have := own_admit h1 n e (by omega)
  rw [hg.1, hg.2] at this
  exact this.mono fun e' w' ⟨r1, r2⟩ => ⟨r1, _, r2, h2, h3, rfl⟩
theorem Ad.no {w wr : World} {g : Nat} {l e : Int} (h : Ad w g l wr) (n : Int) (hn : inNode n = true) (he : e ≤ l) :
    Calls Try.prog 14 #[.pointer (some ⟨g, 0, none⟩), .int .i64 n, .int .u64 e] wr fun e' w' => e' = .returned (.int .i64 8) ∧ Ad w g l w' := by
  obtain ⟨D, h1, h2, h3, h4⟩ := h.ex
  have m1 : mayK D n = 0 := by unfold mayK; rw [h2, hn]; rfl
  have hg : admitE D n e = 8 ∧ admitK D n e = D := by
    constructor
    · unfold admitE; rw [if_pos m1, if_pos (by rw [h4]; exact he)]
    · unfold admitK; rw [if_neg (by rintro ⟨_, h⟩; rw [h4] at h; exact h he)]
  have := own_admit h1 n e (by omega)
  rw [hg.1, hg.2] at this
  exact this.mono fun e' w' ⟨r1, r2⟩ => ⟨r1, _, r2, h2, h3, h4⟩

set_option maxHeartbeats 8000000 in
set_option maxRecDepth 100000 in
theorem walk_in (a : ByteArray) (A : Option Addr) (len cap : Nat) (xs : List OpR) (A2 : Option Addr) (m c : Nat) (z : List Int) (w : World) (hA : a.size = 64) (hlen : len ≤ 40) (hm : m ≤ 40) (hx : OpsIs w A len cap xs) (hz : IsRow .u64 w A2 m c z) :
    Calls Try.prog 8 #[.string a, .slice A len cap, .slice A2 m c] w fun e w' => e = .returned (.bool true) ∧ Below w.heap.size w w' := by
  have klight := light_any w A len cap xs hx
  have knew : ∀ {W : World}, Below w.heap.size w W → Calls Try.prog 13 #[.int .i64 4] W (OwnNew w 4) := fun {W} hb => own_new w hb 4 (by omega) (by omega)
  have k1 : ∀ {g : Nat} {W : World}, Own w g 0 (newK 4) W → Calls Try.prog 14 #[.pointer (some ⟨g, 0, none⟩), .int .i64 1, .int .u64 7] W fun e' w' => e' = .returned (.int .i64 0) ∧ Own w g 0 fD1 w' := fun {g W} h => by
    have := own_admit h 1 7 (by omega); rwa [fD1_eq.1] at this
  have k2 : ∀ {g : Nat} {W : World}, Own w g 0 fD1 W → Calls Try.prog 15 #[.pointer (some ⟨g, 0, none⟩), .int .i64 1, .int .u64 7, .int .i64 0, .string a] W fun e' w' => e' = .returned (.int .i64 0) ∧ Own w g 16 (fD2 a) w' := fun {g W} h => by
    have := own_write h 1 7 0 a (by omega) (by omega); rwa [(fD2_eq a hA).1, (fD2_eq a hA).2] at this
  have k3 : ∀ {g : Nat} {W : World}, Own w g 16 (fD2 a) W → Calls Try.prog 28 #[.pointer (some ⟨g, 0, none⟩), .int .i64 1] W fun e' w' => e' = .returned (.int .i64 0) ∧ Own w g 16 (fD3 a) w' := fun {g W} h => by
    have := own_fence h 1 (by omega); rwa [(fD3_eq a).1, (fD3_eq a).2] at this
  have kwr : ∀ {g : Nat} {W : World} (q : Int) (b : ByteArray), b.size ≤ 1000000 → Own w g 16 (fD3 a) W → Calls Try.prog 15 #[.pointer (some ⟨g, 0, none⟩), .int .i64 1, .int .u64 7, .int .i64 q, .string b] W fun e' w' => e' = .returned (.int .i64 (writeE (fD3 a) 1 7 q b)) ∧ w' = W := fun {g W} q b hb h => by
    have hw := wr3 a q b
    exact own_write_ref h 1 7 q b hb (by omega) (refused (by rcases hw with e | e <;> rw [e] <;> decide) (by rcases hw with e | e <;> rw [e] <;> decide))
  have kbar : ∀ {g : Nat} {W : World}, Own w g 16 (fD3 a) W → Calls Try.prog 24 #[.pointer (some ⟨g, 0, none⟩), .int .i64 1, .int .u64 7] W fun e' w' => e' = .returned (.int .i64 34) ∧ w' = W := fun {g W} h => by
    obtain ⟨p, h1, h2⟩ := h
    exact barrier_ref h1 1 7 (may3 a) (adm3 a)
  have kcut : ∀ {g : Nat} {W : World}, Own w g 16 (fD3 a) W → Calls Try.prog 19 #[.pointer (some ⟨g, 0, none⟩), .slice none 0 0] W fun e' w' => e' = .returned (.int .i64 0) ∧ Own w g 16 (cutK (fD3 a) []) w' := fun {g W} h => own_cut_none h (by omega)
  have krst : ∀ {g : Nat} {W : World}, Own w g 16 (cutK (fD3 a) []) W → Calls Try.prog 20 #[.pointer (some ⟨g, 0, none⟩)] W fun e' w' => e' = .returned (.tuple #[]) ∧ Own w g 16 (fE a) w' := fun {g W} h => own_restore h
  have krd : ∀ {g : Nat} {W : World}, Own w g 16 (fE a) W → Calls Try.prog 17 #[.pointer (some ⟨g, 0, none⟩), .int .i64 0, .int .i64 1] W fun e' w' => e' = .returned (.tuple #[.string a, .int .i64 0]) ∧ Own w g 16 (fE a) w' := fun {g W} h => by
    have := own_read h 0 1; rwa [(fRead a).2, (fRead a).1] at this
  have kad : ∀ {g : Nat} {W : World}, Own w g 16 (fE a) W → Ad w g 7 W := fun {g W} h => ⟨_, h, fE_plain a⟩
  have hE : ∀ q b, writeE (fD3 a) 1 7 q b = 34 ∨ writeE (fD3 a) 1 7 q b = 1 := wr3 a
  have HE := Lib.hid hE
  have HX := Lib.hid hx
  have hlc := hx.1
  have hcm := hx.2.1
  have hxl := hx.2.2.1
  have HXL := Lib.hid hxl
  have hcl : ∀ k, k < m → ∃ b off, A2 = some ⟨b, off, none⟩ ∧ b < w.heap.size ∧ w.cell? ⟨b, off + k, none⟩ = some (.int .u64 (z.getD k 0)) := fun k hk => by
    obtain ⟨b, off, h1, h2, h3⟩ := hz.cells (by omega)
    exact ⟨b, off, h1, h2, h3 k hk⟩
  have HCL := Lib.hid hcl
  have hmm := hz.len
  have hm1 := hmm.1
  have hm2 := hmm.2.1
  unfold maxLen at hcm hm2
  clear hx hz hE hcl hxl hmm
  generalize fE a = DE at *
  generalize cutK (fD3 a) [] = DC at *
  generalize fD3 a = D3 at *
  generalize fD2 a = D2 at *
  generalize fD1 = D1 at *
  have b1 : ((a.size : Int) != 64) = false := by simp; omega
  have b2 : decide ((40 : Int) < (len : Int)) = false := by simp; omega
  have b3 : decide ((40 : Int) < (m : Int)) = false := by simp; omega
  go_enter Try.func8, Try.ntmps8
  go_upto_region 6 with (first
    | (go_at_call 27; refine klight.mono ?_; rintro e wl ⟨q, rfl, hq, hbl⟩; cases q; (go_wp2_with (go_at_call 12; refine (alive_any _).mono ?_; rintro e wz ⟨rfl, hz⟩); go_ret; exact ⟨rfl, hbl.trans (hz.mono hbl.size)⟩))
    | (go_at_call 13; refine (knew hbl).mono ?_; rintro e w0 ⟨g, rfl, h0⟩; have H1 := Lib.hid h0; clear h0)
    | (go_at_call 14; (with_reducible refine (k1 H1.out).mono ?_); rintro e w1 ⟨rfl, h1⟩; have H2 := Lib.hid h1; clear h1)
    | (go_at_call 15; (with_reducible refine (k2 H2.out).mono ?_); rintro e w2 ⟨rfl, h2⟩; have H3 := Lib.hid h2; clear h2)
    | (go_at_call 28; (with_reducible refine (k3 H3.out).mono ?_); rintro e w3 ⟨rfl, h3⟩; have H4 := Lib.hid h3; clear h3))
  have hsz := (hq trivial).2
  have HSZ := Lib.hid hsz
  clear hq hsz klight hbl H1 H2 H3
  go_wp2_with fail
  go_loopw [8] (fun i wr => ∃ k : Nat, i = .int .i64 (k : Int) ∧ k ≤ len ∧ Hid (Own w g 16 D3 wr)) (fun i _ => len - (intOf i).toNat)
  case atStart => exact ⟨0, rfl, by omega, H4⟩
  case round =>
    clear H4
    obtain ⟨k, rfl, hk, HO⟩ := hrel
    by_cases hlt : k < len
    · obtain ⟨b, off, o, rfl, ho, hok, hbl, hkc, _, _, c2, _, _, c5, _, _⟩ := (HX.out.old HO.out.bel).at_ hlt
      have hob : o.data.size ≤ 1000000 := by have := HSZ.out o (List.mem_of_getElem? ho); omega
      have kw := fun (W : World) => kwr (g := g) (W := W) o.at_ o.data hob
      have hE := HE.out o.at_ o.data
      obtain ⟨E, hEe⟩ : ∃ E, writeE D3 1 7 o.at_ o.data = E := ⟨_, rfl⟩
      rw [hEe] at hE
      rw [hEe] at kw
      have hE0 : (E == 0) = false := by rcases hE with rfl | rfl <;> rfl
      have C2 := Lib.hid c2
      have C5 := Lib.hid c5
      have HLB : Hid (b < wr.heap.size) := Lib.hid hbl
      have KW := Lib.hid kw
      clear ho hok c2 c5 hbl kw hEe hE hob
      go_upto_region 9 with fail
      refine wp_region_inv (fun i' v' w' => ([(fun v' _ => v' = (.pointer (some ⟨g, 0, none⟩))), (fun v' _ => v' = (.slice (some ⟨b, off, none⟩) len cap)), (fun v' _ => v' = (.int .i64 (k : Int))), (fun v' _ => v' = (.pointer (some ⟨b, off + k * 8, none⟩))), (fun v' _ => v' = (.pointer (some ⟨b, off + k * 8 + 2, none⟩))), (fun v' _ => v' = (.int .i64 o.at_)), (fun v' _ => v' = (.slice (some ⟨b, off, none⟩) len cap)), (fun v' _ => v' = (.int .i64 (k : Int))), (fun v' _ => v' = (.pointer (some ⟨b, off + k * 8, none⟩))), (fun v' _ => v' = (.pointer (some ⟨b, off + k * 8 + 5, none⟩))), (fun v' _ => v' = (.string o.data)), (fun v' _ => v' = (.int .i64 E)), (fun v' _ => v' = (.bool false)), (fun v' _ => v' = (.bool false)), (fun v' _ => v' = (.pointer (some ⟨g, 0, none⟩))), (fun v' _ => v' = (.int .i64 34)), (fun v' _ => v' = (.bool false)), (fun v' _ => v' = (.bool false))] : List (Value → World → Prop)).getD i' (fun _ _ => True) v' w') (by kernel_rfl) (by kernel_rfl) (stab_list (by
          repeat (first | exact allStab_nil | refine allStab_cons (stab_eq _) ?_ | refine allStab_cons (stab_slice _ _) ?_))) ?_ ?_
      · refine steps_cons rfl ?_ ?_
        · intro a w hR K hK
          have e7 : a.tmps.getD 7 undef = (.pointer (some ⟨g, 0, none⟩)) := hR.old 7 (by kernel_rfl) rfl
          rw [if_pos (wanted_none rfl)]
          have hB := hR.bel
          clear hR
          go_simp
          exact hK _ _ (belowSame _) rfl
        refine steps_cons rfl ?_ ?_
        · intro a w hR K hK
          have e1 : a.tmps.getD 1 undef = (.slice (some ⟨b, off, none⟩) len cap) := hR.old 1 (by kernel_rfl) rfl
          rw [if_pos (wanted_none rfl)]
          have hB := hR.bel
          clear hR
          go_simp
          exact hK _ _ (belowSame _) rfl
        refine steps_cons rfl ?_ ?_
        · intro a w hR K hK
          have e8 : a.tmps.getD 8 undef = (.int .i64 (k : Int)) := hR.old 8 (by kernel_rfl) rfl
          rw [if_pos (wanted_none rfl)]
          have hB := hR.bel
          clear hR
          go_simp
          exact hK _ _ (belowSame _) rfl
        refine steps_cons rfl ?_ ?_
        · intro a w hR K hK
          obtain ⟨v59, e59, _, q59⟩ := hR.val 1 59 (by kernel_rfl) (by kernel_rfl)
          obtain rfl : v59 = (.slice (some ⟨b, off, none⟩) len cap) := q59
          obtain ⟨v60, e60, _, q60⟩ := hR.val 2 60 (by kernel_rfl) (by kernel_rfl)
          obtain rfl : v60 = (.int .i64 (k : Int)) := q60
          rw [if_pos (wanted_none rfl)]
          have hB := hR.bel
          clear hR
          go_simp
          exact hK _ _ (belowSame _) rfl
        refine steps_cons rfl ?_ ?_
        · intro a w hR K hK
          obtain ⟨v61, e61, _, q61⟩ := hR.val 3 61 (by kernel_rfl) (by kernel_rfl)
          obtain rfl : v61 = (.pointer (some ⟨b, off + k * 8, none⟩)) := q61
          rw [if_pos (wanted_none rfl)]
          have hB := hR.bel
          clear hR
          go_simp
          exact hK _ _ (belowSame _) rfl
        refine steps_cons rfl ?_ ?_
        · intro a w hR K hK
          obtain ⟨v62, e62, _, q62⟩ := hR.val 4 62 (by kernel_rfl) (by kernel_rfl)
          obtain rfl : v62 = (.pointer (some ⟨b, off + k * 8 + 2, none⟩)) := q62
          rw [if_pos (wanted_none rfl)]
          have hc := (hR.bel.cell (p := ⟨b, off + k * 8 + 2, none⟩) HLB.out).trans C2.out
          clear hR
          go_simp
          exact hK _ _ (belowSame _) rfl
        refine steps_cons rfl ?_ ?_
        · intro a w hR K hK
          have e1 : a.tmps.getD 1 undef = (.slice (some ⟨b, off, none⟩) len cap) := hR.old 1 (by kernel_rfl) rfl
          rw [if_pos (wanted_none rfl)]
          have hB := hR.bel
          clear hR
          go_simp
          exact hK _ _ (belowSame _) rfl
        refine steps_cons rfl ?_ ?_
        · intro a w hR K hK
          have e8 : a.tmps.getD 8 undef = (.int .i64 (k : Int)) := hR.old 8 (by kernel_rfl) rfl
          rw [if_pos (wanted_none rfl)]
          have hB := hR.bel
          clear hR
          go_simp
          exact hK _ _ (belowSame _) rfl
        refine steps_cons rfl ?_ ?_
        · intro a w hR K hK
          obtain ⟨v64, e64, _, q64⟩ := hR.val 6 64 (by kernel_rfl) (by kernel_rfl)
          obtain rfl : v64 = (.slice (some ⟨b, off, none⟩) len cap) := q64
          obtain ⟨v65, e65, _, q65⟩ := hR.val 7 65 (by kernel_rfl) (by kernel_rfl)
          obtain rfl : v65 = (.int .i64 (k : Int)) := q65
          rw [if_pos (wanted_none rfl)]
          have hB := hR.bel
          clear hR
          go_simp
          exact hK _ _ (belowSame _) rfl
        refine steps_cons rfl ?_ ?_
        · intro a w hR K hK
          obtain ⟨v66, e66, _, q66⟩ := hR.val 8 66 (by kernel_rfl) (by kernel_rfl)
          obtain rfl : v66 = (.pointer (some ⟨b, off + k * 8, none⟩)) := q66
          rw [if_pos (wanted_none rfl)]
          have hB := hR.bel
          clear hR
          go_simp
          exact hK _ _ (belowSame _) rfl
        refine steps_cons rfl ?_ ?_
        · intro a w hR K hK
          obtain ⟨v67, e67, _, q67⟩ := hR.val 9 67 (by kernel_rfl) (by kernel_rfl)
          obtain rfl : v67 = (.pointer (some ⟨b, off + k * 8 + 5, none⟩)) := q67
          rw [if_pos (wanted_none rfl)]
          have hc := (hR.bel.cell (p := ⟨b, off + k * 8 + 5, none⟩) HLB.out).trans C5.out
          clear hR
          go_simp
          exact hK _ _ (belowSame _) rfl
        refine steps_cons rfl ?_ ?_
        · intro a w hR K hK
          obtain ⟨v58, e58, _, q58⟩ := hR.val 0 58 (by kernel_rfl) (by kernel_rfl)
          obtain rfl : v58 = (.pointer (some ⟨g, 0, none⟩)) := q58
          obtain ⟨v63, e63, _, q63⟩ := hR.val 5 63 (by kernel_rfl) (by kernel_rfl)
          obtain rfl : v63 = (.int .i64 o.at_) := q63
          obtain ⟨v68, e68, _, q68⟩ := hR.val 10 68 (by kernel_rfl) (by kernel_rfl)
          obtain rfl : v68 = (.string o.data) := q68
          rw [if_pos (wanted_none rfl)]
          have ho := HO.out.then_ (belowUndrew hR.bel)
          have kl := KW.out _ ho
          clear hR ho
          go_simp
          refine kl.mono ?_
          rintro e w' ⟨rfl, rfl⟩
          exact hK _ _ (belowSame _) rfl
        refine steps_cons rfl ?_ ?_
        · intro a w hR K hK
          obtain ⟨v69, e69, _, q69⟩ := hR.val 11 69 (by kernel_rfl) (by kernel_rfl)
          obtain rfl : v69 = (.int .i64 E) := q69
          rw [if_pos (wanted_none rfl)]
          have hB := hR.bel
          clear hR
          go_simp
          exact hK _ _ (belowSame _) rfl
        refine steps_cons rfl ?_ ?_
        · intro a w hR K hK
          obtain ⟨v70, e70, _, q70⟩ := hR.val 12 70 (by kernel_rfl) (by kernel_rfl)
          obtain rfl : v70 = (.bool false) := q70
          rw [if_pos (wanted_none rfl)]
          have hB := hR.bel
          clear hR
          go_simp
          exact hK _ _ (belowSame _) rfl
        refine steps_cons rfl ?_ ?_
        · intro a w hR K hK
          have e7 : a.tmps.getD 7 undef = (.pointer (some ⟨g, 0, none⟩)) := hR.old 7 (by kernel_rfl) rfl
          rw [if_pos (hR.wants (o := _) rfl (by kernel_rfl : depB _ 13 = true) (by kernel_rfl : dstAt _ 13 = some 71) (fun _ h => h))]
          have hB := hR.bel
          clear hR
          go_simp
          exact hK _ _ (belowSame _) rfl
        refine steps_cons rfl ?_ ?_
        · intro a w hR K hK
          obtain ⟨v72, e72, _, q72⟩ := hR.val 14 72 (by kernel_rfl) (by kernel_rfl)
          obtain rfl : v72 = (.pointer (some ⟨g, 0, none⟩)) := q72
          rw [if_pos (hR.wants (o := _) rfl (by kernel_rfl : depB _ 13 = true) (by kernel_rfl : dstAt _ 13 = some 71) (fun _ h => h))]
          have ho := HO.out.then_ (belowUndrew hR.bel)
          have kl := kbar ho
          clear hR ho
          go_simp
          refine kl.mono ?_
          rintro e w' ⟨rfl, rfl⟩
          exact hK _ _ (belowSame _) rfl
        refine steps_cons rfl ?_ ?_
        · intro a w hR K hK
          obtain ⟨v73, e73, _, q73⟩ := hR.val 15 73 (by kernel_rfl) (by kernel_rfl)
          obtain rfl : v73 = (.int .i64 34) := q73
          rw [if_pos (hR.wants (o := _) rfl (by kernel_rfl : depB _ 13 = true) (by kernel_rfl : dstAt _ 13 = some 71) (fun _ h => h))]
          have hB := hR.bel
          clear hR
          go_simp
          exact hK _ _ (belowSame _) rfl
        refine steps_cons rfl ?_ ?_
        · intro a w hR K hK
          obtain ⟨v71, e71, _, q71⟩ := hR.val 13 71 (by kernel_rfl) (by kernel_rfl)
          obtain rfl : v71 = (.bool false) := q71
          obtain ⟨v74, e74, _, q74⟩ := hR.val 16 74 (by kernel_rfl) (by kernel_rfl)
          obtain rfl : v74 = (.bool false) := q74
          rw [if_pos (wanted_none rfl)]
          have hB := hR.bel
          clear hR
          go_simp
          exact hK _ _ (belowSame _) rfl
        exact steps_nil
      · intro a' w' hF
        obtain ⟨v75, e75, _, q75⟩ := hF.val 17 75 (by decide) (by kernel_rfl)
        obtain rfl : v75 = (.bool false) := q75
        have hB := belowUndrew hF.bel
        have hf := hF.frame
        rw [show dsts _ = [58, 59, 60, 61, 62, 63, 64, 65, 66, 67, 68, 69, 70, 71, 72, 73, 74, 75] from by kernel_rfl] at hf
        obtain ⟨z58, h58⟩ : ∃ z, a'.tmps.getD 58 undef = z := ⟨_, rfl⟩
        obtain ⟨z59, h59⟩ : ∃ z, a'.tmps.getD 59 undef = z := ⟨_, rfl⟩
        obtain ⟨z60, h60⟩ : ∃ z, a'.tmps.getD 60 undef = z := ⟨_, rfl⟩
        obtain ⟨z61, h61⟩ : ∃ z, a'.tmps.getD 61 undef = z := ⟨_, rfl⟩
        obtain ⟨z62, h62⟩ : ∃ z, a'.tmps.getD 62 undef = z := ⟨_, rfl⟩
        obtain ⟨z63, h63⟩ : ∃ z, a'.tmps.getD 63 undef = z := ⟨_, rfl⟩
        obtain ⟨z64, h64⟩ : ∃ z, a'.tmps.getD 64 undef = z := ⟨_, rfl⟩
        obtain ⟨z65, h65⟩ : ∃ z, a'.tmps.getD 65 undef = z := ⟨_, rfl⟩
        obtain ⟨z66, h66⟩ : ∃ z, a'.tmps.getD 66 undef = z := ⟨_, rfl⟩
        obtain ⟨z67, h67⟩ : ∃ z, a'.tmps.getD 67 undef = z := ⟨_, rfl⟩
        obtain ⟨z68, h68⟩ : ∃ z, a'.tmps.getD 68 undef = z := ⟨_, rfl⟩
        obtain ⟨z69, h69⟩ : ∃ z, a'.tmps.getD 69 undef = z := ⟨_, rfl⟩
        obtain ⟨z70, h70⟩ : ∃ z, a'.tmps.getD 70 undef = z := ⟨_, rfl⟩
        obtain ⟨z71, h71⟩ : ∃ z, a'.tmps.getD 71 undef = z := ⟨_, rfl⟩
        obtain ⟨z72, h72⟩ : ∃ z, a'.tmps.getD 72 undef = z := ⟨_, rfl⟩
        obtain ⟨z73, h73⟩ : ∃ z, a'.tmps.getD 73 undef = z := ⟨_, rfl⟩
        obtain ⟨z74, h74⟩ : ∃ z, a'.tmps.getD 74 undef = z := ⟨_, rfl⟩
        simp only [List.foldl_cons, List.foldl_nil, h58, h59, h60, h61, h62, h63, h64, h65, h66, h67, h68, h69, h70, h71, h72, h73, h74, e75] at hf
        simp only [List.setIfInBounds_toArray, List.set_cons_zero, List.set_cons_succ] at hf
        clear hF e75 h58 h59 h60 h61 h62 h63 h64 h65 h66 h67 h68 h69 h70 h71 h72 h73 h74
        subst hf
        have HO2 := Lib.hid (HO.out.then_ hB)
        clear hB
        go_wp2_with fail
        go_roundw
        case rel => exact ⟨k + 1, by go_num, by omega, HO2⟩
        case measure => simp [intOf]; omega
    · go_upto_region 14 with (first
        | (go_at_call 19; (with_reducible refine (kcut HO.out).mono ?_); rintro e w1 ⟨rfl, h1⟩; have H1 := Lib.hid h1; clear h1 HO)
        | (go_at_call 20; (with_reducible refine (krst H1.out).mono ?_); rintro e w2 ⟨rfl, h2⟩; have H2 := Lib.hid h2; clear h2 H1)
        | (go_at_call 17; (with_reducible refine (krd H2.out).mono ?_); rintro e w3 ⟨rfl, h3⟩; have H3 := Lib.hid (kad h3); clear h3 H2))
      clear hlt kcut krst krd kad kbar kwr HE HX HSZ HXL
      go_wp2_with fail
      go_loopw [11, 12, 13] (fun la i _ wr => ∃ (k : Nat) (l : Int), i = .int .i64 (k : Int) ∧ la = .int .u64 l ∧ k ≤ m ∧ Hid (Ad w g l wr)) (fun _ i _ _ => m - (intOf i).toNat)
      case atStart => exact ⟨0, 7, rfl, rfl, by omega, H3⟩
      case round =>
        clear H3
        obtain ⟨j, l, rfl, rfl, hj, HA⟩ := hrel
        by_cases hjm : j < m
        · obtain ⟨b, off, rfl, hb0, hc0⟩ := HCL.out j hjm
          have hc : wr.cell? ⟨b, off + j, none⟩ = some (.int .u64 (z.getD j 0)) := (HA.out.bel.cell (p := ⟨b, off + j, none⟩) hb0).trans hc0
          obtain ⟨x, hx⟩ : ∃ x, z.getD j 0 = x := ⟨_, rfl⟩
          rw [hx] at hc hc0
          have HC0 := Lib.hid hc0
          have HB0 := Lib.hid hb0
          have hmod : ((j : Nat) : Int).tmod 3 = ((j % 3 : Nat) : Int) := by rw [Int.tmod_eq_emod_of_nonneg (by omega)]; omega
          obtain ⟨t, ht⟩ : ∃ t, j % 3 = t := ⟨_, rfl⟩
          have ht3 : t < 3 := by omega
          rw [ht] at hmod
          have hwr : IntKind.i64.wrap (1 + (t : Int)) = 1 + (t : Int) := IntWalk.i64_in _ (by omega)
          have hin : inNode (1 + (t : Int)) = true := by unfold inNode; simp; omega
          clear hx hc0 hb0 ht
          by_cases hl : l < x
          · have b5 : decide (l < x) = true := by simpa using hl
            have ka := HA.out.yes (e := x) (1 + (t : Int)) hin hl
            go_wp2_with (go_at_call 14; (with_reducible refine ka.mono ?_); rintro e w5 ⟨rfl, h5⟩; have H5 := Lib.hid h5; have hc5 : w5.cell? ⟨b, off + j, none⟩ = some (.int .u64 x) := (h5.bel.cell (p := ⟨b, off + j, none⟩) HB0.out).trans HC0.out; clear h5)
            go_roundw
            case rel => exact ⟨j + 1, x, by go_num, rfl, by omega, H5⟩
            case measure => simp [intOf]; omega
          · have b5 : decide (l < x) = false := by simpa using hl
            have ka := HA.out.no (e := x) (1 + (t : Int)) hin (by omega)
            go_wp2_with (go_at_call 14; (with_reducible refine ka.mono ?_); rintro e w5 ⟨rfl, h5⟩; have H5 := Lib.hid h5; have hc5 : w5.cell? ⟨b, off + j, none⟩ = some (.int .u64 x) := (h5.bel.cell (p := ⟨b, off + j, none⟩) HB0.out).trans HC0.out; clear h5)
            go_roundw
            case rel => exact ⟨j + 1, l, by go_num, rfl, by omega, H5⟩
            case measure => simp [intOf]; omega
        · go_wp2_with (first
            | (go_at_call 12; refine (alive_any _).mono ?_; rintro e wz ⟨rfl, hz⟩; have HZ := Lib.hid (HA.out.then_ hz); clear hz)
            | (go_at_call 23; (with_reducible refine HZ.out.last.mono ?_); rintro e w7 ⟨rfl, rfl⟩))
          go_ret
          exact ⟨ret_bool (by first | rfl | simp), HZ.out.bel⟩
set_option maxHeartbeats 4000000 in
set_option maxRecDepth 100000 in
theorem walk (a : ByteArray) (A : Option Addr) (len cap : Nat) (xs : List OpR) (A2 : Option Addr) (m c : Nat) (z : List Int) (w : World) (g0 : a.size ≤ maxLen) (hx : OpsIs w A len cap xs) (hz : IsRow .u64 w A2 m c z) :
    Calls Try.prog 8 #[.string a, .slice A len cap, .slice A2 m c] w fun e w' => e = .returned (.bool true) ∧ Below w.heap.size w w' := by
  have klight := light_any w A len cap xs hx
  have hlc := hx.1
  have hcm := hx.2.1
  have hm1 := hz.len.1
  have hm2 := hz.len.2.1
  unfold maxLen at hcm hm2
  by_cases hA : a.size = 64
  · have b1 : ((a.size : Int) != 64) = false := by simp; omega
    by_cases hlen : len ≤ 40
    · have b2 : decide ((40 : Int) < (len : Int)) = false := by simp; omega
      by_cases hm : m ≤ 40
      · exact walk_in a A len cap xs A2 m c z w hA hlen hm hx hz
      · have b3 : decide ((40 : Int) < (m : Int)) = true := by simp; omega
        clear hz hx
        go_enter Try.func8, Try.ntmps8
        go_wp2_with (go_at_call 27; refine klight.mono ?_; rintro e wl ⟨q, rfl, hq, hbl⟩; cases q)
        all_goals
          go_wp2_with (go_at_call 12; refine (alive_any _).mono ?_; rintro e w1 ⟨rfl, hb⟩)
          go_ret
          exact ⟨rfl, hbl.trans (hb.mono hbl.size)⟩
    · have b2 : decide ((40 : Int) < (len : Int)) = true := by simp; omega
      clear hz hx
      go_enter Try.func8, Try.ntmps8
      go_wp2_with (go_at_call 27; refine klight.mono ?_; rintro e wl ⟨q, rfl, hq, hbl⟩; cases q)
      all_goals
        go_wp2_with (go_at_call 12; refine (alive_any _).mono ?_; rintro e w1 ⟨rfl, hb⟩)
        go_ret
        exact ⟨rfl, hbl.trans (hb.mono hbl.size)⟩
  · have b1 : ((a.size : Int) != 64) = true := by simp; omega
    clear hz hx
    go_enter Try.func8, Try.ntmps8
    go_wp2_with (go_at_call 12; refine (alive_any _).mono ?_; rintro e w1 ⟨rfl, hb⟩)
    go_ret
    exact ⟨rfl, hb⟩
end Go.Proofs.Ytlnomfaaldjnpaa.diskFences
