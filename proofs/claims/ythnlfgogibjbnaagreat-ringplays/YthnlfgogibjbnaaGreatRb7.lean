/- commonsbook.Book: putInts, the walk. No condition. -/
import Derived.Test.YthnlfgogibjbnaaGreatRb6
namespace Go.Proofs.YthnlfgogibjbnaaGreat.RB
set_option maxRecDepth 100000
set_option maxRecDepth 100000
open Go.RowKit Go.Proofs.YthnlfgogibjbnaaGreat.Bk
set_option linter.unusedVariables false
set_option linter.unusedSimpArgs false

theorem putL_at0 {i : Nat} {L : List Ls} {l : Ls} (hi : L[i]? = some l) : (putL i 0 L)[i]? = some l := by
  rw [putL_at hi]
  simp [marks]
theorem own_cell {w : World} {B n c : Nat} {a : Option Addr} {xs : List Int} (h : w.ownsRow B TI 1 (.slice a n c) n (xs.map val)) {j : Nat} {z : Int} (hj : xs[j]? = some z) : ∃ b, a = some ⟨b, 0, none⟩ ∧ w.cell? ⟨b, j, none⟩ = some (.int .i64 z) ∧ B ≤ b := by
  have hn : 0 < n := by have h1 := h.1; simp at h1; have := get_lt hj; omega
  obtain ⟨b, rfl⟩ := own_place h hn
  have := h.cells (g := b) rfl j (.int .i64 z) (by simp [hj])
  rw [Go.WideShapes.add_plain, Nat.zero_add] at this
  exact ⟨b, rfl, this, (h.lt b rfl).1⟩
def PutAt (w : World) (B k : Nat) (aI : Option Addr) (cI : Nat) (V : Value) (L : List Ls) (i j : Nat) (wr : World) : Prop := BookI wr B k aI cI V (putL i j L) ∧ Keeps (listsF aI L) w wr
theorem PutAt.old {w : World} {B k : Nat} {aI : Option Addr} {cI : Nat} {V : Value} {L : List Ls} {i j : Nat} {wr w1 : World} (h : PutAt w B k aI cI V L i j wr) (hb : Below wr.heap.size wr w1) : PutAt w B k aI cI V L i j w1 :=
  ⟨h.1.old hb, h.2.trans (Keeps.of_below hb (fun _ => False)) (fun _ _ h => h.elim)⟩
theorem mark_get {i z j : Nat} (hj : j < z) : (marks i 0 z)[j]? = some (mark i j) := by simp [marks, hj]
theorem PutAt.write {w : World} {B k : Nat} {aI : Option Addr} {cI : Nat} {V : Value} {L : List Ls} {i j : Nat} {wr : World} {l : Ls} (h : PutAt w B k aI cI V L i j wr) (h0 : ListsAt w B aI cI L) (hi : L[i]? = some l) (hj : j < l.xs.length) :
    ∃ b u, l.a = some ⟨b, 0, none⟩ ∧ b < w.heap.size ∧ wr.cell? ⟨b, j, none⟩ = some u ∧ wr.frozen? ⟨b, j, none⟩ = false ∧ PutAt w B k aI cI V L i (j + 1) (wr.setCell ⟨b, j, none⟩ (.int .i64 (mark i j))) ∧ Keeps (fun k => k = b) wr (wr.setCell ⟨b, j, none⟩ (.int .i64 (mark i j))) := by
  obtain ⟨b, u, h1, h2, h3, h4⟩ := h.1.write (putL_at hi) (j := j) (by simp [marks_len]; omega) (mark i j)
  rw [← putL_succ hi hj] at h4
  have hob : ob l.a = some b := by rw [show l.a = some ⟨b, 0, none⟩ from h1]; rfl
  have hbf : listsF aI L b := .inr ⟨l, List.mem_of_getElem? hi, hob⟩
  exact ⟨b, u, h1, (h0.lt b hbf).2, h2, h3, ⟨h4, h.2.setCell (p := ⟨b, j, none⟩) (fun _ => hbf) _⟩, Keeps.setCell (S := fun k => k = b) (p := ⟨b, j, none⟩) (Keeps.refl _ _) (fun _ => rfl) _⟩
set_option maxHeartbeats 4000000 in
theorem put_Ints {w : World} {B k cI : Nat} {aI : Option Addr} {V : Value} {L : List Ls} (h : BookI w B k aI cI V L) (hL : L.length ≤ 200) (hx : ∀ l ∈ L, l.xs.length ≤ 100000) :
    Calls Tryz.prog 42 #[.pointer (some ⟨k, 0, none⟩)] w fun e w' => e = .returned (.tuple #[]) ∧ BookI w' B k aI cI V (doneL L) ∧ Keeps (listsF aI L) w w' := by
  obtain ⟨n, hnl⟩ : ∃ n, L.length = n := ⟨_, rfl⟩
  have k2 := own_caps h.i.row
  rw [hnl] at k2
  unfold maxLen at k2
  have HH := Lib.hid h
  have HN := Lib.hid hnl
  have HX := Lib.hid hx
  have hn2 : n ≤ 200 := by omega
  clear h hnl hx hL
  go_enter Tryz.func42, Tryz.ntmps42
  go_wp2
  go_loopw [2] (fun i wr => ∃ j : Nat, j ≤ n ∧ i = .int .i64 (j : Int) ∧ Hid (PutAt w B k aI cI V L j 0 wr)) (fun i _ => n - (intOf i).toNat)
  case atStart => exact ⟨0, by omega, rfl, Lib.hid ⟨by rw [putL_zero]; exact HH.out, Keeps.refl _ _⟩⟩
  case round =>
    obtain ⟨i, hi, rfl, HP⟩ := hrel
    have c2 : wr.cell? ⟨k, 2, none⟩ = some (.slice aI n cI) := by have := HP.out.1.blk.cell 2; rwa [putL_len, HN.out] at this
    by_cases hlt : i < n
    · obtain ⟨l, hl⟩ : ∃ l, L[i]? = some l := ⟨_, List.getElem?_eq_getElem (by rw [HN.out]; exact hlt)⟩
      obtain ⟨bI, rfl, x0⟩ := HP.out.1.i.cell (putL_at0 hl)
      have hlx := HX.out l (List.mem_of_getElem? hl)
      obtain ⟨z, hz⟩ : ∃ z, l.xs.length = z := ⟨_, rfl⟩
      rw [hz] at x0 hlx
      have i0 : (0 : Int) ≤ (i : Int) := by omega
      have i1 : (i : Int) < (n : Int) := by omega
      have km := mark_ints i 0 z wr (by omega) (by omega) (by omega)
      rw [show ((0 : Nat) : Int) = 0 from rfl] at km
      have HL := Lib.hid (And.intro hl hz)
      clear hl hz
      go_upto_region 4 with (go_at_call 101; refine km.mono ?_; rintro e w1 ⟨am, cm, rfl, hom, hb1⟩; have H1 := Lib.hid (HP.out.old hb1); have OM := Lib.hid hom; have HS := Lib.hid hb1.size; have hcm := own_caps hom; clear hom hb1 km)
      unfold maxLen at hcm
      clear c2 x0
      obtain ⟨S0, hS0⟩ : ∃ q, wr.heap.size = q := ⟨_, rfl⟩
      have om := OM.out
      rw [hS0] at om
      have hwS : w.heap.size ≤ S0 := by have := HP.out.2.size; omega
      have OM2 := Lib.hid om
      have HSS := Lib.hid hwS
      clear om hwS hS0 OM HS
      go_wp2_with fail
      go_loopw [4] (fun q wx => ∃ j : Nat, j ≤ z ∧ q = .int .i64 (j : Int) ∧ Hid (PutAt w B k (some ⟨bI, 0, none⟩) cI V L i j wx ∧ wx.ownsRow S0 TI 1 (.slice am z cm) z ((marks i 0 z).map val))) (fun q _ => z - (intOf q).toNat)
      case atStart => exact ⟨0, by omega, rfl, Lib.hid ⟨H1.out, OM2.out⟩⟩
      case round =>
        obtain ⟨j, hj, rfl, HQ⟩ := hrel
        by_cases hlt2 : j < z
        · have hq := HQ.out.1.old (belowDrew (belowSame wr))
          have c2 : wr.drew.cell? ⟨k, 2, none⟩ = some (.slice (some ⟨bI, 0, none⟩) n cI) := by have := hq.1.blk.cell 2; rwa [putL_len, HN.out] at this
          have hlen : (marks i 0 j ++ l.xs.drop j).length = z := by have := HL.out.2; simp [marks_len]; omega
          obtain ⟨b', e', x0⟩ := hq.1.i.cell (putL_at (j := j) HL.out.1)
          dsimp only at x0
          rw [hlen] at x0
          injection e' with e'
          injection e' with e'
          subst e'
          obtain ⟨b, u, hla, hbw, y1, y2, hP2, hk⟩ := HQ.out.1.write HH.out.i HL.out.1 (by have := HL.out.2; omega)
          rw [hla] at x0
          obtain ⟨bm, rfl, x1, hbm⟩ := own_cell HQ.out.2 (mark_get hlt2)
          have x1 : wr.drew.cell? ⟨bm, j, none⟩ = some (.int .i64 (mark i j)) := x1
          have hown := own_keeps HQ.out.2 hk (fun q h1 e => by have h2 := (HQ.out.2.lt q h1).1; have := HSS.out; omega)
          have y1 : wr.drew.cell? ⟨b, j, none⟩ = some u := y1
          have y2 : wr.drew.frozen? ⟨b, j, none⟩ = false := y2
          have hown2 := own_keeps hown (Keeps.of_below (belowDrew (belowSame _)) (fun _ => False)) (fun _ _ h => h)
          have HR := Lib.hid (And.intro (hP2.old (belowDrew (belowSame _))) hown2)
          have j0 : (0 : Int) ≤ (j : Int) := by omega
          have j1 : (j : Int) < (z : Int) := by omega
          clear hq hlen hla hbw hP2 hk hbm hown hown2 HQ
          go_wp2_with fail
          go_region_law (fail)
          all_goals
            go_wp2_with fail
            go_roundw
            case rel => exact ⟨j + 1, by omega, by go_num, HR⟩
            case measure => simp [intOf]; omega
        · obtain rfl : j = z := by omega
          go_wp2_with fail
          go_roundw
          case rel => exact ⟨i + 1, by omega, by go_num, by have := HQ.out.1; rw [← HL.out.2, PutAt, putL_next HL.out.1] at this; exact Lib.hid this⟩
          case measure => simp [intOf]; omega
    · obtain rfl : i = n := by omega
      go_wp2_with fail
      refine bodyPost_end (results_none rfl _ _ _) rfl ?_
      exact ⟨rfl, by have := HP.out; rwa [← HN.out, PutAt, putL_done] at this⟩
end Go.Proofs.YthnlfgogibjbnaaGreat.RB
