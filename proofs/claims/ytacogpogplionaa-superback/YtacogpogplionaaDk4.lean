/- The disk: Arm. No condition. -/
import Derived.Test.YtacogpogplionaaDk3
namespace Go.Proofs.Ytacogpogplionaa.DK
set_option maxRecDepth 100000
open Go.RowKit Go.Proofs.Ytacogpogplionaa.MI
set_option linter.unusedVariables false
set_option linter.unusedSimpArgs false

theorem own_caps {w : World} {B : Nat} {e : TypeId} {size n c : Nat} {a : Option Addr} {xs : List Value} (h : w.ownsRow B e size (.slice a n c) n xs) : n ≤ c ∧ c ≤ maxLen ∧ (a = none → n = 0 ∧ c = 0) ∧ (∀ ad, a = some ad → ∃ b, ad = ⟨b, 0, none⟩) := by
  rcases h.2 with ⟨h0, h1⟩ | ⟨g', cap', cur, h0, _, _, h1, h2, _⟩
  · injection h0 with e1 e2 e3
    exact ⟨by omega, by rw [e3]; unfold maxLen; omega, fun _ => ⟨h1, e3⟩, fun ad e => by rw [e1] at e; cases e⟩
  · injection h0 with e1 e2 e3
    exact ⟨by omega, by omega, fun hn => (by rw [e1] at hn; cases hn), fun ad e => ⟨g', by rw [e1] at e; injection e with e; exact e.symm⟩⟩
section
variable {w w' : World} {B g N : Nat} {p : Pl} {D : Dk}
theorem arm_end {w1 : World} {n : Int} {keep : List Int} {A a : Option Addr} {m c : Nat} (h : DiskAt w B g p N D) (hnl : n ≤ 9223372036854775807) (ho : w1.ownsRow w.heap.size TI 1 (.slice a m c) m (keep.map (Value.int .i64))) (hb : Below w.heap.size w w1) :
    w1.frozen? ⟨g, 41, none⟩ = false ∧ w1.frozen? ⟨g, 42, none⟩ = false ∧ w1.frozen? ⟨g, 43, none⟩ = false ∧ w1.cell? ⟨g, 41, none⟩ = some (.bool D.armed) ∧ w1.cell? ⟨g, 42, none⟩ = some (.int .i64 D.left) ∧ w1.cell? ⟨g, 43, none⟩ = some (.slice p.sa p.sn p.sc) ∧
      DiskOut w B g p N (armK D n keep) (((w1.setCell ⟨g, 41, none⟩ (.bool (decide (0 ≤ n)))).setCell ⟨g, 42, none⟩ (.int .i64 n)).setCell ⟨g, 43, none⟩ (.slice a m c)) := by
  have h1 := h.old hb
  have hnew : ∀ k, (Value.slice a m c).ownBlock = some k → w.heap.size ≤ k := fun k hk => (ho.lt k hk).1
  have hg := h.blk.lt
  have hK0 : Keeps (only g) w1 (((w1.setCell ⟨g, 41, none⟩ (.bool (decide (0 ≤ n)))).setCell ⟨g, 42, none⟩ (.int .i64 n)).setCell ⟨g, 43, none⟩ (.slice a m c)) := ((keep1 w1 g 41 _).cell_ 42 _).cell_ 43 _
  have hK : Keeps (fp g p) w (((w1.setCell ⟨g, 41, none⟩ (.bool (decide (0 ≤ n)))).setCell ⟨g, 42, none⟩ (.int .i64 n)).setCell ⟨g, 43, none⟩ (.slice a m c)) := (Keeps.of_below hb (fp g p)).trans hK0 (fun k _ e => .inl e)
  have hown := own_keeps ho hK0 (fun k hk e => by have := hnew k hk; unfold only at e; omega)
  have hb0 := h.base
  refine ⟨h1.blk.frozen 41, h1.blk.frozen 42, h1.blk.frozen 43, h1.blk.cell 41, h1.blk.cell 42, h1.blk.cell 43, { p with sa := a, sn := m, sc := c }, ?_, hK, fun k hk => .inl hk, fun k hk => ?_⟩
  · obtain ⟨nn, hn1, hn2⟩ := h1.now
    obtain ⟨q, hq, hmq⟩ := h1.lasts
    refine ⟨?_, ⟨nn, hn1, hn2.keeps hK0 h1.neGN⟩, ⟨q, hq, hmq.keeps hK0 h1.neGL⟩, own_keeps h1.waits hK0 (fun k hk => (h1.neW k (by rw [own_blk] at hk; exact hk)).1), Lies.of_own hown, own_caps ho, fun k hk1 hk2 => ?_, fun k hk => ?_, h.geg, h.gen, h.gel, h.ne, h.seq, ⟨h.sane.room, h.sane.now, h.sane.lasts, h.sane.waits, hnl⟩⟩
    · exact ((h1.blk.set_ 41 _).set_ 42 _).set_ 43 _
    · obtain ⟨ad, e, rfl⟩ := hk1
      have e' : a = some ad := e
      have h2 := hnew ad.block (by rw [e']; rfl)
      have h3 := h.lt _ hk2
      omega
    · obtain ⟨ad, e, rfl⟩ := hk
      have e' : a = some ad := e
      have h2 := hnew ad.block (by rw [e']; rfl)
      exact ⟨trivial, (hown.lt _ (by rw [e']; rfl)).2⟩
  · obtain ⟨ad, e, rfl⟩ := hk
    have e' : a = some ad := e
    exact .inr (hnew ad.block (by rw [e']; rfl))
theorem arm_any (h : DiskAt w B g p N D) (n : Int) (hnl : n ≤ 9223372036854775807) (A : Option Addr) (m c : Nat) (keep : List Int) (hl : Lies w 1 A m (keep.map (Value.int .i64))) (hm : m ≤ 1000000000000) (hn : A = none → m = 0 ∧ c = 0) :
    Calls Try.prog 62 #[.pointer (some ⟨g, 0, none⟩), .int .i64 n, .slice A m c] w fun e w' => e = .returned (.tuple #[]) ∧ DiskOut w B g p N (armK D n keep) w' := by
  have kc := clone_int w A m c _ hl (by intro u hu; obtain ⟨x, _, rfl⟩ := List.mem_map.1 hu; rfl) hm hn
  have fin := fun (a : Option Addr) (c' : Nat) (w1 : World) (ho : w1.ownsRow w.heap.size TI 1 (.slice a m c') m (keep.map (Value.int .i64))) (hb : Below w.heap.size w w1) => arm_end (n := n) (A := a) h hnl ho hb
  have F := Lib.hid fin
  clear h hl fin
  go_enter Try.func62, Try.ntmps62
  go_wp2_with (go_at_call 65; refine kc.mono ?_; rintro e w1 ⟨a, c', rfl, ho, hb, _⟩; obtain ⟨f1, f2, f3, d1, d2, d3, hD⟩ := F.out a c' w1 ho hb; have HD := Lib.hid hD; clear ho hb hD F kc)
  refine bodyPost_end (results_none rfl _ _ _) rfl ?_
  exact ⟨rfl, HD.out⟩
end
end Go.Proofs.Ytacogpogplionaa.DK
