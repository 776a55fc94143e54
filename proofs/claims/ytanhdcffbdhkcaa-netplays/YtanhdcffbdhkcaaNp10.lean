/- NetPlays: each call of both nets, beside each other. No condition. -/
import Derived.Test.YtanhdcffbdhkcaaNp9
namespace Go.Proofs.Ytanhdcffbdhkcaa.NP
set_option maxRecDepth 100000
set_option maxRecDepth 100000
open Go.RowKit Go.Proofs.Ytanhdcffbdhkcaa.RP Go.Proofs.Ytanhdcffbdhkcaa.CM Go.Proofs.Ytanhdcffbdhkcaa.NT
set_option linter.unusedVariables false
set_option linter.unusedSimpArgs false

section
variable {w0 W W' : World} {g r N : Nat} {xs ys : List Pk} {C : Int → Int → Bool} {cs : List (Int × Int)} {bl : List (Nat × TypeId × Array Value)}
theorem play_new {lp mp : Option Nat} {a : Option Addr} {c : Nat} (h : NetAt W w0.heap.size g lp a c mp 0 [] (fun _ _ => false)) (hb : Below w0.heap.size w0 W) : PlayAt w0 g W.heap.size 0 [] (fun _ _ => false) [] [] [] (W.alloc (.cells #[.slice none 0 0, .slice none 0 0] RT)) := by
  have hn := belowNew (belowSame W) (.cells #[.slice none 0 0, .slice none 0 0] RT)
  have hs := hb.size
  refine ⟨lp, a, c, mp, none, 0, none, 0, h.old hn, ⟨Blk.new _ _ _, World.ownsRow_nil _ _ _ _, World.ownsRow_nil _ _ _ _, hs⟩, belowThen hb hn, fun k k1 k2 => ?_, fun b hb => by cases hb⟩
  rcases k2 with k2 | k2 | k2
  · have := h.lt k k1; omega
  · simp [Value.ownBlock] at k2
  · simp [Value.ownBlock] at k2
theorem play_zero {w1 : World} (h : PlayAt w0 g r 0 [] (fun _ _ => false) [] [] [] W) : PlayAt w0 W.heap.size r 0 [] (fun _ _ => false) [] [] [] (W.alloc (.cells #[.pointer none, .map none] 47)) := by
  obtain ⟨lp, a, c, mp, aL, cL, aC, cC, h1, h2, h3, h4, h5⟩ := h
  have hn := belowNew (belowSame W) (.cells #[.pointer none, .map none] 47)
  refine ⟨none, none, 0, none, aL, cL, aC, cC, ⟨Blk.new _ _ _, .inl ⟨rfl, rfl, rfl⟩, .inl ⟨rfl, rfl⟩, h3.size⟩, h2.old hn, belowThen h3 hn, fun k k1 k2 => ?_, fun b hb => by cases hb⟩
  have := h2.lt k k2
  rcases k1 with k1 | k1
  · omega
  · simp [Value.ownBlock, segF] at k1
theorem j_take (h : PlayAt w0 g r N xs C ys cs bl W) (k : Int) : Calls Try.prog 13 #[.pointer (some ⟨g, 0, none⟩), .int .i64 k] W fun e w' => e = .returned (.tuple #[agg (getB xs k), .bool (inB xs k)]) ∧ PlayAt w0 g r N (takeB xs k) C ys cs bl w' :=
  h.net (P := fun e => e = .returned (.tuple #[agg (getB xs k), .bool (inB xs k)])) fun h1 _ => (take_net h1 k).mono fun _ _ ⟨a, b⟩ => ⟨a, b.out⟩
theorem j_drop (h : PlayAt w0 g r N xs C ys cs bl W) (k : Int) : Calls Try.prog 11 #[.pointer (some ⟨g, 0, none⟩), .int .i64 k] W fun e w' => e = .returned (.bool (inB xs k)) ∧ PlayAt w0 g r N (takeB xs k) C ys cs bl w' :=
  h.net (P := fun e => e = .returned (.bool (inB xs k))) fun h1 _ => (drop_net h1 k).mono fun _ _ ⟨a, b⟩ => ⟨a, b.out⟩
theorem j_double (h : PlayAt w0 g r N xs C ys cs bl W) (k : Int) : Calls Try.prog 10 #[.pointer (some ⟨g, 0, none⟩), .int .i64 k] W fun e w' => e = .returned (.bool (canD xs k)) ∧ PlayAt w0 g r N (doubleB xs k) C ys cs bl w' :=
  h.net (P := fun e => e = .returned (.bool (canD xs k))) fun h1 _ => (double_net h1 k).mono fun _ _ ⟨a, b⟩ => ⟨a, b.out⟩
theorem j_swap (h : PlayAt w0 g r N xs C ys cs bl W) (k j : Int) : Calls Try.prog 12 #[.pointer (some ⟨g, 0, none⟩), .int .i64 k, .int .i64 j] W fun e w' => e = .returned (.bool (canS xs k j)) ∧ PlayAt w0 g r N (swapB xs k j) C ys cs bl w' :=
  h.net (P := fun e => e = .returned (.bool (canS xs k j))) fun h1 _ => (swap_net h1 k j).mono fun _ _ ⟨a, b⟩ => ⟨a, b.out⟩
theorem j_peek (h : PlayAt w0 g r N xs C ys cs bl W) (k : Int) : Calls Try.prog 27 #[.pointer (some ⟨g, 0, none⟩), .int .i64 k] W fun e w' => e = .returned (.tuple #[agg (getB xs k), .bool (inB xs k)]) ∧ PlayAt w0 g r N xs C ys cs bl w' :=
  h.net (P := fun e => e = .returned (.tuple #[agg (getB xs k), .bool (inB xs k)])) fun h1 _ => (peek_net h1 k).mono fun _ _ ⟨a, b⟩ => ⟨a, b.out⟩
theorem j_len (h : PlayAt w0 g r N xs C ys cs bl W) : Calls Try.prog 14 #[.pointer (some ⟨g, 0, none⟩)] W fun e w' => e = .returned (.int .i64 (xs.length : Int)) ∧ PlayAt w0 g r N xs C ys cs bl w' :=
  h.net (P := fun e => e = .returned (.int .i64 (xs.length : Int))) fun h1 _ => (len_net h1).mono fun _ _ ⟨a, b⟩ => ⟨a, b.out⟩
theorem j_clear (h : PlayAt w0 g r N xs C ys cs bl W) : Calls Try.prog 16 #[.pointer (some ⟨g, 0, none⟩)] W fun e w' => e = .returned (.int .i64 (xs.length : Int)) ∧ PlayAt w0 g r N [] C ys cs bl w' :=
  h.net (P := fun e => e = .returned (.int .i64 (xs.length : Int))) fun h1 _ => (clear_net h1).mono fun _ _ ⟨a, b⟩ => ⟨a, b.out⟩
theorem j_cut (h : PlayAt w0 g r N xs C ys cs bl W) (x y : Int) (wx : Wf x) (wy : Wf y) (hN : N ≤ 1000000) (on : Bool) : Calls Try.prog 15 #[.pointer (some ⟨g, 0, none⟩), .int .i64 x, .int .i64 y, .bool on] W fun e w' => e = .returned (.tuple #[]) ∧ PlayAt w0 g r (N + 1) xs (cutC C x y on) ys cs bl w' := by
  cases on
  · exact h.net (P := fun e => e = .returned (.tuple #[])) fun h1 _ => (cut_off h1 x y wx wy hN).mono fun _ _ ⟨a, b⟩ => ⟨a, b⟩
  · exact h.net (P := fun e => e = .returned (.tuple #[])) fun h1 _ => (cut_on h1 x y wx wy hN).mono fun _ _ ⟨a, b⟩ => ⟨a, b⟩
/-- Send of a row that stands beside. -/
theorem j_send {b : Nat} {T : TypeId} {vs : Array Value} (h : PlayAt w0 g r N xs C ys cs bl W) (hb : (b, T, vs) ∈ bl) (n cp : Nat) (ps : List Pk) (hl : Lies W 3 (some ⟨b, 0, none⟩) n (ps.flatMap val)) (hn : n ≤ 100000) (hcp : n ≤ cp) (hwf : ∀ p ∈ ps, Wf p.f ∧ Wf p.t ∧ p.d.size ≤ 1000000) :
    Calls Try.prog 9 #[.pointer (some ⟨g, 0, none⟩), .slice (some ⟨b, 0, none⟩) n cp] W fun e w' => e = .returned (.int .i64 (((sendB C xs ps).length : Int) - (xs.length : Int))) ∧ PlayAt w0 g r N (sendB C xs ps) C ys cs bl w' :=
  h.net (P := fun e => e = .returned (.int .i64 (((sendB C xs ps).length : Int) - (xs.length : Int)))) fun h1 h2 => (send_net h1 (some ⟨b, 0, none⟩) n cp ps hl (by have := hl.1; rw [flat_len val_len] at this; omega) hn hcp (fun ad e hk => by injection e with e; subst e; exact h2 _ hb hk) (fun _ => ⟨_, _, rfl⟩) hwf).mono fun _ _ ⟨a, b⟩ => ⟨a, b.out⟩
theorem k_take (h : PlayAt w0 g r N xs C ys cs bl W) (k : Int) (hl : ys.length ≤ 2000) : Calls Try.prog 22 #[.pointer (some ⟨r, 0, none⟩), .int .i64 k] W fun e w' => e = .returned (.tuple #[agg (getB ys k), .bool (inB ys k)]) ∧ PlayAt w0 g r N xs C (takeB ys k) cs bl w' :=
  h.ref (P := fun e => e = .returned (.tuple #[agg (getB ys k), .bool (inB ys k)])) fun h1 => rtake_any h1 k hl
theorem k_double (h : PlayAt w0 g r N xs C ys cs bl W) (k : Int) (hl : ys.length ≤ 2000) : Calls Try.prog 24 #[.pointer (some ⟨r, 0, none⟩), .int .i64 k] W fun e w' => e = .returned (.bool (canD ys k)) ∧ PlayAt w0 g r N xs C (doubleB ys k) cs bl w' :=
  h.ref (P := fun e => e = .returned (.bool (canD ys k))) fun h1 => rdouble_any h1 k hl
theorem k_swap (h : PlayAt w0 g r N xs C ys cs bl W) (k j : Int) (hl : ys.length ≤ 2000) : Calls Try.prog 25 #[.pointer (some ⟨r, 0, none⟩), .int .i64 k, .int .i64 j] W fun e w' => e = .returned (.bool (canS ys k j)) ∧ PlayAt w0 g r N xs C (swapB ys k j) cs bl w' :=
  h.ref (P := fun e => e = .returned (.bool (canS ys k j))) fun h1 => rswap_any h1 k j hl
theorem k_cut (h : PlayAt w0 g r N xs C ys cs bl W) (x y : Int) (on : Bool) (hl : cs.length ≤ 1000) : Calls Try.prog 26 #[.pointer (some ⟨r, 0, none⟩), .int .i64 x, .int .i64 y, .bool on] W fun e w' => e = .returned (.tuple #[]) ∧ PlayAt w0 g r N xs C ys (cutL cs x y on) bl w' :=
  h.ref (P := fun e => e = .returned (.tuple #[])) fun h1 => rcut_any h1 x y on hl
theorem k_send (h : PlayAt w0 g r N xs C ys cs bl W) (A : Option Addr) (n cA : Nat) (ps : List Pk) (hl : Lies W 3 A n (ps.flatMap val)) (hA : 0 < n → ∃ b off, A = some ⟨b, off, none⟩ ∧ b ≠ r) (hn : n ≤ 1000) (hnc : n ≤ cA) (hy : ys.length ≤ 1000) (hcs : cs.length ≤ 1000) : Calls Try.prog 19 #[.pointer (some ⟨r, 0, none⟩), .slice A n cA] W fun e w' => e = .returned (.int .i64 (((rsendB cs ys ps).length : Int) - (ys.length : Int))) ∧ PlayAt w0 g r N xs C (rsendB cs ys ps) cs bl w' :=
  h.ref (P := fun e => e = .returned (.int .i64 (((rsendB cs ys ps).length : Int) - (ys.length : Int)))) fun h1 => rsend_any h1 A n cA ps hl hA hn hnc hy hcs
theorem k_there (h : PlayAt w0 g r N xs C ys cs bl W) (k : Int) : Calls Try.prog 28 #[.pointer (some ⟨r, 0, none⟩), .int .i64 k] W fun e w' => e = .returned (.bool (inB ys k)) ∧ W = w' := by
  obtain ⟨aL, cL, aC, cC, h1⟩ := h.refs
  exact there_any h1 k
theorem k_clear (h : PlayAt w0 g r N xs C ys cs bl W) : PlayAt w0 g r N xs C [] cs bl (W.setCell ⟨r, 0, none⟩ (.slice none 0 0)) := by
  obtain ⟨lp, a, c, mp, aL, cL, aC, cC, h1, h2, h3, h4, h5⟩ := h
  exact PlayAt.rout h1 h2 h3 h4 h5 h2.clear
theorem k_ne (h : PlayAt w0 g r N xs C ys cs bl W) {b : Nat} {T : TypeId} {vs : Array Value} (hb : (b, T, vs) ∈ bl) : b ≠ r := by
  obtain ⟨lp, a, c, mp, aL, cL, aC, cC, h1, h2, h3, h4, h5⟩ := h
  exact fun e => (h5 _ hb).2.2 (.inl e)
theorem k_ge (h : PlayAt w0 g r N xs C ys cs bl W) : w0.heap.size ≤ r := by
  obtain ⟨lp, a, c, mp, aL, cL, aC, cC, h1, h2, _⟩ := h
  exact h2.ge
end
end Go.Proofs.Ytanhdcffbdhkcaa.NP
