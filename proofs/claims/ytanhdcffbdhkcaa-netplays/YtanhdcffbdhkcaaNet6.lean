/- A net of the call's own: each call of it, as the laws use it; calls of a nil net; alive. No condition. -/
import Derived.Test.YtanhdcffbdhkcaaNet5
namespace Go.Proofs.Ytanhdcffbdhkcaa.NT
set_option maxRecDepth 100000
open Go.RowKit Go.Proofs.Ytanhdcffbdhkcaa.RP Go.Proofs.Ytanhdcffbdhkcaa.CM
set_option linter.unusedVariables false

/-- Block g is a net, made since w0; nothing that stood then has turned. -/
def Own (w0 : World) (g N : Nat) (xs : List Pk) (C : Int → Int → Bool) (W : World) : Prop := ∃ lp a c mp, NetAt W w0.heap.size g lp a c mp N xs C ∧ Below w0.heap.size w0 W
section
variable {w0 W W' : World} {g N : Nat} {xs ys : List Pk} {C C' : Int → Int → Bool}
theorem Own.bel (h : Own w0 g N xs C W) : Below w0.heap.size w0 W := by obtain ⟨_, _, _, _, _, hb⟩ := h; exact hb
theorem Own.of {lp mp : Option Nat} {a : Option Addr} {c N' : Nat} (h : NetAt W w0.heap.size g lp a c mp N xs C) (hb : Below w0.heap.size w0 W) (ho : NetOut W w0.heap.size g lp a mp N' ys C' W') : Own w0 g N' ys C' W' := by
  obtain ⟨lp', a', c', mp', h1, h2, h3⟩ := ho
  exact ⟨lp', a', c', mp', h1, h2.after hb h.geF h.base⟩
theorem Own.then_ (h : Own w0 g N xs C W) (hb : Below W.heap.size W W') : Own w0 g N xs C W' := by
  obtain ⟨lp, a, c, mp, h1, h2⟩ := h
  exact ⟨lp, a, c, mp, h1.old hb, belowThen h2 hb⟩
theorem Own.alloc (h : Own w0 g N xs C W) (o : Obj) : Own w0 g N xs C (W.alloc o) := h.then_ (belowNew (belowSame _) _)
theorem Own.drew (h : Own w0 g N xs C W) : Own w0 g N xs C W.drew := h.then_ (belowDrew (belowSame _))
theorem Own.drewN (h : Own w0 g N xs C W) (n : Nat) : Own w0 g N xs C (W.drewN n) := h.then_ (belowDrewN (belowSame _) n)

theorem own_new (w0 : World) (hb : Below w0.heap.size w0 W) : Calls Try.prog 8 #[] W fun e w' => e = .returned (.pointer (some ⟨W.heap.size, 0, none⟩)) ∧ Own w0 W.heap.size 0 [] (fun _ _ => false) w' := by
  refine (new_net W).mono ?_
  rintro e w' ⟨rfl, h1, h2⟩
  exact ⟨rfl, none, none, 0, none, ⟨h1.blk, .inl ⟨rfl, rfl, rfl⟩, .inl ⟨rfl, rfl⟩, hb.size⟩, belowThen hb h2⟩
theorem own_len (h : Own w0 g N xs C W) : Calls Try.prog 14 #[.pointer (some ⟨g, 0, none⟩)] W fun e w' => e = .returned (.int .i64 (xs.length : Int)) ∧ Own w0 g N xs C w' := by
  obtain ⟨lp, a, c, mp, h1, h2⟩ := h
  exact (len_net h1).mono fun e w' ⟨he, ho⟩ => ⟨he, Own.of h1 h2 ho.out⟩
theorem own_clear (h : Own w0 g N xs C W) : Calls Try.prog 16 #[.pointer (some ⟨g, 0, none⟩)] W fun e w' => e = .returned (.int .i64 (xs.length : Int)) ∧ Own w0 g N [] C w' := by
  obtain ⟨lp, a, c, mp, h1, h2⟩ := h
  exact (clear_net h1).mono fun e w' ⟨he, ho⟩ => ⟨he, Own.of h1 h2 ho.out⟩
theorem own_peek (h : Own w0 g N xs C W) (k : Int) : Calls Try.prog 27 #[.pointer (some ⟨g, 0, none⟩), .int .i64 k] W fun e w' => e = .returned (.tuple #[agg (getB xs k), .bool (inB xs k)]) ∧ Own w0 g N xs C w' := by
  obtain ⟨lp, a, c, mp, h1, h2⟩ := h
  exact (peek_net h1 k).mono fun e w' ⟨he, ho⟩ => ⟨he, Own.of h1 h2 ho.out⟩
theorem own_take (h : Own w0 g N xs C W) (k : Int) : Calls Try.prog 13 #[.pointer (some ⟨g, 0, none⟩), .int .i64 k] W fun e w' => e = .returned (.tuple #[agg (getB xs k), .bool (inB xs k)]) ∧ Own w0 g N (takeB xs k) C w' := by
  obtain ⟨lp, a, c, mp, h1, h2⟩ := h
  exact (take_net h1 k).mono fun e w' ⟨he, ho⟩ => ⟨he, Own.of h1 h2 ho.out⟩
theorem own_drop (h : Own w0 g N xs C W) (k : Int) : Calls Try.prog 11 #[.pointer (some ⟨g, 0, none⟩), .int .i64 k] W fun e w' => e = .returned (.bool (inB xs k)) ∧ Own w0 g N (takeB xs k) C w' := by
  obtain ⟨lp, a, c, mp, h1, h2⟩ := h
  exact (drop_net h1 k).mono fun e w' ⟨he, ho⟩ => ⟨he, Own.of h1 h2 ho.out⟩
theorem own_double (h : Own w0 g N xs C W) (k : Int) : Calls Try.prog 10 #[.pointer (some ⟨g, 0, none⟩), .int .i64 k] W fun e w' => e = .returned (.bool (canD xs k)) ∧ Own w0 g N (doubleB xs k) C w' := by
  obtain ⟨lp, a, c, mp, h1, h2⟩ := h
  exact (double_net h1 k).mono fun e w' ⟨he, ho⟩ => ⟨he, Own.of h1 h2 ho.out⟩
theorem own_swap (h : Own w0 g N xs C W) (k j : Int) : Calls Try.prog 12 #[.pointer (some ⟨g, 0, none⟩), .int .i64 k, .int .i64 j] W fun e w' => e = .returned (.bool (canS xs k j)) ∧ Own w0 g N (swapB xs k j) C w' := by
  obtain ⟨lp, a, c, mp, h1, h2⟩ := h
  exact (swap_net h1 k j).mono fun e w' ⟨he, ho⟩ => ⟨he, Own.of h1 h2 ho.out⟩
def cutC (C : Int → Int → Bool) (x y : Int) (on : Bool) : Int → Int → Bool := if on = true then withIn (withOut C (min x y) (max x y)) (min x y) (max x y) else withOut C (min x y) (max x y)
theorem own_cut (h : Own w0 g N xs C W) (x y : Int) (wx : Wf x) (wy : Wf y) (hN : N ≤ 1000000) (on : Bool) : Calls Try.prog 15 #[.pointer (some ⟨g, 0, none⟩), .int .i64 x, .int .i64 y, .bool on] W fun e w' => e = .returned (.tuple #[]) ∧ Own w0 g (N + 1) xs (cutC C x y on) w' := by
  obtain ⟨lp, a, c, mp, h1, h2⟩ := h
  cases on
  · exact (cut_off h1 x y wx wy hN).mono fun e w' ⟨he, ho⟩ => ⟨he, Own.of h1 h2 ho⟩
  · exact (cut_on h1 x y wx wy hN).mono fun e w' ⟨he, ho⟩ => ⟨he, Own.of h1 h2 ho⟩
/-- Send of datagrams that were laid just now. -/
theorem own_send (h : Own w0 g N xs C W) (o : Obj) (n cp : Nat) (ps : List Pk) (hl : Lies (W.alloc o) 3 (some ⟨W.heap.size, 0, none⟩) n (ps.flatMap val)) (hn : n ≤ 100000) (hcp : n ≤ cp) (hwf : ∀ p ∈ ps, Wf p.f ∧ Wf p.t ∧ p.d.size ≤ 1000000) :
    Calls Try.prog 9 #[.pointer (some ⟨g, 0, none⟩), .slice (some ⟨W.heap.size, 0, none⟩) n cp] (W.alloc o) fun e w' => e = .returned (.int .i64 (((sendB C xs ps).length : Int) - (xs.length : Int))) ∧ Own w0 g N (sendB C xs ps) C w' := by
  obtain ⟨lp, a, c, mp, h1, h2⟩ := h
  have hlen : ps.length = n := by have := hl.1; rw [flat_len val_len] at this; omega
  refine (send_net (h1.alloc o) (some ⟨W.heap.size, 0, none⟩) n cp ps hl hlen hn hcp (fun ad e hk => ?_) (fun _ => ⟨_, _, rfl⟩) hwf).mono fun e w' ⟨he, ho⟩ => ⟨he, Own.of (h1.alloc o) (belowNew h2 o) ho.out⟩
  injection e with e
  subst e
  have : W.heap.size < W.heap.size := h1.lt _ hk
  omega
theorem lies_pks (w : World) (ps : List Pk) (cs : Array Value) (hc : cs.toList = ps.flatMap val) : Lies (w.alloc (.cells cs TP)) 3 (some ⟨w.heap.size, 0, none⟩) ps.length (ps.flatMap val) := by
  have h := Lies.of_blk (Blk.new w TP cs)
  rw [hc] at h
  refine ⟨by rw [flat_len val_len], fun hn => h.2 ?_⟩
  have : cs.size = ps.length * 3 := by have := congrArg List.length hc; rw [flat_len val_len] at this; simpa using this
  omega
end

/-! ### alive -/
theorem wf0 : Wf 0 := (by decide : (Lit.int .i64 0).wf = true)
abbrev px : Pk := ⟨0, 0, ByteArray.mk #[120]⟩
abbrev py : Pk := ⟨0, 0, ByteArray.mk #[121]⟩
theorem alive_any (w : World) : Calls Try.prog 7 #[] w fun e w' => e = .returned (.bool true) ∧ Below w.heap.size w w' := by
  have knew := own_new w (belowSame w)
  have ksend : ∀ {g : Nat} {W : World}, Own w g 0 [] (fun _ _ => false) W → Calls Try.prog 9 #[.pointer (some ⟨g, 0, none⟩), .slice (some ⟨W.heap.size, 0, none⟩) 2 2] (W.alloc (.cells #[.int .i64 0, .int .i64 0, .string (ByteArray.mk #[120]), .int .i64 0, .int .i64 0, .string (ByteArray.mk #[121])] 28)) fun e w' =>
      e = .returned (.int .i64 2) ∧ Own w g 0 [px, py] (fun _ _ => false) w' := fun {g W} h =>
    own_send h _ 2 2 [px, py] (lies_pks W [px, py] _ rfl) (by omega) (by omega) (by intro p hp; simp at hp; rcases hp with rfl | rfl <;> exact ⟨wf0, wf0, by decide⟩)
  have kswap : ∀ {g : Nat} {W : World}, Own w g 0 [px, py] (fun _ _ => false) W → Calls Try.prog 12 #[.pointer (some ⟨g, 0, none⟩), .int .i64 0, .int .i64 1] W fun e w' => e = .returned (.bool true) ∧ Own w g 0 [py, px] (fun _ _ => false) w' := fun {g W} h => own_swap h 0 1
  have ktake : ∀ {g : Nat} {W : World}, Own w g 0 [py, px] (fun _ _ => false) W → Calls Try.prog 13 #[.pointer (some ⟨g, 0, none⟩), .int .i64 0] W fun e w' => e = .returned (.tuple #[agg py, .bool true]) ∧ Own w g 0 [px] (fun _ _ => false) w' := fun {g W} h => own_take h 0
  have klen : ∀ {g : Nat} {W : World}, Own w g 0 [px] (fun _ _ => false) W → Calls Try.prog 14 #[.pointer (some ⟨g, 0, none⟩)] W fun e w' => e = .returned (.int .i64 1) ∧ Own w g 0 [px] (fun _ _ => false) w' := fun {g W} h => own_len h
  go_enter Try.func7, Try.ntmps7
  go_wp2_with (first
    | (go_at_call 8; refine knew.mono ?_; rintro e w1 ⟨rfl, h1⟩; have H1 := Lib.hid h1; clear h1)
    | (go_at_call 9; refine (ksend H1.out).mono ?_; rintro e w2 ⟨rfl, h2⟩; have H2 := Lib.hid h2; clear h2)
    | (go_at_call 12; refine (kswap H2.out).mono ?_; rintro e w3 ⟨rfl, h3⟩; have H3 := Lib.hid h3; clear h3)
    | (go_at_call 13; refine (ktake H3.out).mono ?_; rintro e w4 ⟨rfl, h4⟩; have H4 := Lib.hid (h4.alloc (boxP py)); clear h4)
    | (go_at_call 14; refine (klen H4.out).mono ?_; rintro e w5 ⟨rfl, h5⟩; have H5 := Lib.hid h5; clear h5))
  go_ret
  exact ⟨rfl, H5.out.bel⟩
end Go.Proofs.Ytanhdcffbdhkcaa.NT
