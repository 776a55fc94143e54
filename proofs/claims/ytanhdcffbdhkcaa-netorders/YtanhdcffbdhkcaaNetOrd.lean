/- The net of NetOrders and its row of numbers. No condition. -/
import Derived.Test.YtanhdcffbdhkcaaNetCuts
namespace Go.Proofs.Ytanhdcffbdhkcaa.netOrders
open Go.RowKit Go.Proofs.Ytanhdcffbdhkcaa.RP Go.Proofs.Ytanhdcffbdhkcaa.CM Go.Proofs.Ytanhdcffbdhkcaa.NT Go.Proofs.Ytanhdcffbdhkcaa.netCuts
set_option linter.unusedVariables false

abbrev vi (t : Int) : Value := .int .i64 t
abbrev pk (t : Int) : Pk := ⟨0, t, e0⟩
/-- Net block g holds datagrams to ps, the row (wa, wc) holds ws; nothing that stood at w0 has turned. -/
def OW (w0 : World) (g : Nat) (ps ws : List Int) (wa : Option Addr) (wc : Nat) (W : World) : Prop :=
  ∃ lp a c mp, NetAt W w0.heap.size g lp a c mp 0 (ps.map pk) no ∧ Below w0.heap.size w0 W ∧ W.ownsRow w0.heap.size 3 1 (.slice wa ws.length wc) ws.length (ws.map vi) ∧ ∀ k, (Value.slice wa 0 0).ownBlock = some k → ¬ netF g lp a mp k
section
variable {w0 W W' : World} {g wc : Nat} {ps ws qs : List Int} {wa : Option Addr}
theorem OW.bel (h : OW w0 g ps ws wa wc W) : Below w0.heap.size w0 W := by obtain ⟨_, _, _, _, _, hb, _⟩ := h; exact hb
theorem OW.row (h : OW w0 g ps ws wa wc W) : W.ownsRow w0.heap.size 3 1 (.slice wa ws.length wc) ws.length (ws.map vi) := by obtain ⟨_, _, _, _, _, _, hb, _⟩ := h; exact hb
theorem OW.base (h : OW w0 g ps ws wa wc W) : w0.heap.size ≤ W.heap.size := h.bel.size
theorem OW.then_ (h : OW w0 g ps ws wa wc W) (hb : Below W.heap.size W W') : OW w0 g ps ws wa wc W' := by
  obtain ⟨lp, a, c, mp, h1, h2, h3, h4⟩ := h
  exact ⟨lp, a, c, mp, h1.old hb, belowThen h2 hb, own_keeps h3 (Keeps.of_below hb (fun _ => False)) (fun _ _ h => h), h4⟩
theorem OW.alloc (h : OW w0 g ps ws wa wc W) (o : Obj) : OW w0 g ps ws wa wc (W.alloc o) := h.then_ (belowNew (belowSame _) _)
theorem OW.drew (h : OW w0 g ps ws wa wc W) : OW w0 g ps ws wa wc W.drew := h.then_ (belowDrew (belowSame _))
theorem OW.new {w0 W : World} (hb : Below w0.heap.size w0 W) {lp mp : Option Nat} {a : Option Addr} {c : Nat} (h : NetAt W w0.heap.size g lp a c mp 0 [] no) : OW w0 g [] [] none 0 W :=
  ⟨lp, a, c, mp, h, hb, World.ownsRow_nil _ _ _ _, fun k hk => by simp [Value.ownBlock] at hk⟩
theorem ow_new (w : World) : Calls Try.prog 8 #[] w fun e w' => e = .returned (.pointer (some ⟨w.heap.size, 0, none⟩)) ∧ OW w w.heap.size [] [] none 0 w' := by
  refine (new_net w).mono ?_
  rintro e w' ⟨rfl, h1, h2⟩
  exact ⟨rfl, OW.new h2 h1⟩
/-- From a call of the net, W1 the world at the call. -/
theorem OW.net {W1 : World} {P : Ending → Prop} {f : Nat} {args : Array Value} (h : OW w0 g ps ws wa wc W) (hb : Below W.heap.size W W1) (hc : ∀ {lp mp : Option Nat} {a : Option Addr} {c : Nat}, NetAt W w0.heap.size g lp a c mp 0 (ps.map pk) no → NetAt W1 w0.heap.size g lp a c mp 0 (ps.map pk) no → Calls Try.prog f args W1 fun e w' => P e ∧ NetOut W1 w0.heap.size g lp a mp 0 (qs.map pk) no w') :
    Calls Try.prog f args W1 fun e w' => P e ∧ OW w0 g qs ws wa wc w' := by
  have hh := h.then_ hb
  obtain ⟨lp, a, c, mp, h1, h2, h3, h4⟩ := h
  have h1' := h1.old hb
  have h2' := belowThen h2 hb
  have h3' := own_keeps h3 (Keeps.of_below hb (fun _ => False)) (fun _ _ h => h)
  refine (hc h1 h1').mono ?_
  rintro e w' ⟨hP, lp', a', c', mp', k1, k2, k3⟩
  refine ⟨hP, lp', a', c', mp', k1, k2.after h2' h1'.geF h1'.base, own_keeps h3' k2 (fun k hk => h4 k (by rw [own_blk] at hk; exact hk)), fun k hk hf => ?_⟩
  rcases k3 k hf with h5 | h5
  · exact h4 k hk h5
  · have := (h3'.lt k (by rw [own_blk]; exact hk)).2
    omega
theorem e0_size : e0.size ≤ 1000000 := by decide
theorem ow_send (h : OW w0 g ps ws wa wc W) (t : Int) (ht : Wf t) (hl : ps.length < 900) :
    Calls Try.prog 9 #[.pointer (some ⟨g, 0, none⟩), .slice (some ⟨W.heap.size, 0, none⟩) 1 1] (W.alloc (.cells #[.int .i64 0, .int .i64 t, .string e0] TP)) fun e w' => (∃ r, e = .returned (.int .i64 r)) ∧ OW w0 g (ps ++ [t]) ws wa wc w' := by
  refine h.net (belowNew (belowSame _) _) fun {lp mp a c} k1 k2 => ?_
  have hs : sendB no (ps.map pk) [pk t] = (ps ++ [t]).map pk := by
    rw [send_miss no _ _ _ rfl (by simpa using hl)]
    simp [sendB]
  have := send_net k2 (some ⟨W.heap.size, 0, none⟩) 1 1 [pk t] (lies_pks W [pk t] #[.int .i64 0, .int .i64 t, .string e0] rfl) rfl (by omega) (Nat.le_refl _) (fun ad e hk => by
    injection e with e; subst e; have : W.heap.size < W.heap.size := k1.lt _ hk; omega) (fun _ => ⟨_, _, rfl⟩) (by intro p hp; simp at hp; subst hp; exact ⟨wf0, ht, e0_size⟩)
  rw [hs] at this
  exact this.mono fun e w' ⟨he, ho⟩ => ⟨⟨_, he⟩, ho.out⟩
theorem in_pk {K : Nat} (hK : K < ps.length) : inB (ps.map pk) (K : Int) = true ∧ getB (ps.map pk) (K : Int) = pk (ps.getD K 0) := by
  have h1 : inB (ps.map pk) (K : Int) = true := by unfold inB; simp; omega
  refine ⟨h1, ?_⟩
  unfold getB
  rw [if_pos h1]
  simp [List.getElem?_eq_getElem hK]
theorem ow_double (h : OW w0 g ps ws wa wc W) (K : Nat) (hK : K < ps.length) (hl : ps.length < 900) :
    Calls Try.prog 10 #[.pointer (some ⟨g, 0, none⟩), .int .i64 (K : Int)] W fun e w' => e = .returned (.bool true) ∧ OW w0 g (ps ++ [ps.getD K 0]) ws wa wc w' := by
  refine h.net (belowSame _) fun {lp mp a c} k1 k2 => ?_
  have hc : canD (ps.map pk) (K : Int) = true := by unfold canD; rw [(in_pk hK).1]; simpa using hl
  have hs : doubleB (ps.map pk) (K : Int) = (ps ++ [ps.getD K 0]).map pk := by unfold doubleB; rw [if_pos hc, (in_pk hK).2]; simp
  have := double_net k1 (K : Int)
  rw [hs, hc] at this
  exact this.mono fun e w' ⟨he, ho⟩ => ⟨he, ho.out⟩
theorem ow_drop (h : OW w0 g ps ws wa wc W) (J : Nat) (hJ : J < ps.length) :
    Calls Try.prog 11 #[.pointer (some ⟨g, 0, none⟩), .int .i64 (J : Int)] W fun e w' => e = .returned (.bool true) ∧ OW w0 g (ps.take J ++ ps.drop (J + 1)) ws wa wc w' := by
  refine h.net (belowSame _) fun {lp mp a c} k1 k2 => ?_
  have hs : takeB (ps.map pk) (J : Int) = (ps.take J ++ ps.drop (J + 1)).map pk := by
    unfold takeB
    rw [if_pos (in_pk hJ).1]
    simp only [Int.toNat_natCast, List.map_append, List.map_take, List.map_drop]
    rw [List.eraseIdx_eq_take_drop_succ]
  have := drop_net k1 (J : Int)
  rw [hs, (in_pk hJ).1] at this
  exact this.mono fun e w' ⟨he, ho⟩ => ⟨he, ho.out⟩
theorem ow_swap (h : OW w0 g ps ws wa wc W) (x y : Nat) (hx : x < ps.length) (hy : y < ps.length) :
    Calls Try.prog 12 #[.pointer (some ⟨g, 0, none⟩), .int .i64 (x : Int), .int .i64 (y : Int)] W fun e w' => e = .returned (.bool true) ∧ OW w0 g ((ps.set x (ps.getD y 0)).set y (ps.getD x 0)) ws wa wc w' := by
  refine h.net (belowSame _) fun {lp mp a c} k1 k2 => ?_
  have hc : canS (ps.map pk) (x : Int) (y : Int) = true := by unfold canS; rw [(in_pk hx).1, (in_pk hy).1]; rfl
  have hs : swapB (ps.map pk) (x : Int) (y : Int) = ((ps.set x (ps.getD y 0)).set y (ps.getD x 0)).map pk := by
    unfold swapB
    rw [if_pos hc, (in_pk hx).2, (in_pk hy).2]
    simp only [Int.toNat_natCast, List.map_set]
  have := swap_net k1 (x : Int) (y : Int)
  rw [hs, hc] at this
  exact this.mono fun e w' ⟨he, ho⟩ => ⟨he, ho.out⟩
theorem ow_take (h : OW w0 g ps ws wa wc W) (t : Int) (qs : List Int) (hp : ps = t :: qs) :
    Calls Try.prog 13 #[.pointer (some ⟨g, 0, none⟩), .int .i64 0] W fun e w' => e = .returned (.tuple #[agg (pk t), .bool true]) ∧ OW w0 g qs ws wa wc w' := by
  refine h.net (belowSame _) fun {lp mp a c} k1 k2 => ?_
  subst hp
  have hi := in_pk (ps := t :: qs) (K := 0) (by simp)
  have hs : takeB ((t :: qs).map pk) 0 = qs.map pk := by
    unfold takeB
    have h1 := hi.1
    simp only [Int.natCast_zero] at h1
    rw [if_pos h1]
    rfl
  have := take_net k1 0
  have h1 := hi.1
  have h2 := hi.2
  simp only [Int.natCast_zero] at h1 h2
  rw [hs, h1, h2] at this
  exact this.mono fun e w' ⟨he, ho⟩ => ⟨he, ho.out⟩
theorem ow_len0 (h : OW w0 g [] ws wa wc W) : Calls Try.prog 14 #[.pointer (some ⟨g, 0, none⟩)] W fun e w' => e = .returned (.int .i64 0) ∧ OW w0 g [] ws wa wc w' :=
  h.net (belowSame _) fun {lp mp a c} k1 k2 => (len_net k1).mono fun e w' ⟨he, ho⟩ => ⟨he, ho.out⟩
theorem ow_drop0 (h : OW w0 g [] ws wa wc W) : Calls Try.prog 11 #[.pointer (some ⟨g, 0, none⟩), .int .i64 0] W fun e w' => e = .returned (.bool false) ∧ OW w0 g [] ws wa wc w' :=
  h.net (belowSame _) fun {lp mp a c} k1 k2 => (drop_net k1 0).mono fun e w' ⟨he, ho⟩ => ⟨he, ho.out⟩
theorem ow_double0 (h : OW w0 g [] ws wa wc W) : Calls Try.prog 10 #[.pointer (some ⟨g, 0, none⟩), .int .i64 0] W fun e w' => e = .returned (.bool false) ∧ OW w0 g [] ws wa wc w' :=
  h.net (belowSame _) fun {lp mp a c} k1 k2 => (double_net k1 0).mono fun e w' ⟨he, ho⟩ => ⟨he, ho.out⟩
theorem ow_swap0 (h : OW w0 g [] ws wa wc W) : Calls Try.prog 12 #[.pointer (some ⟨g, 0, none⟩), .int .i64 0, .int .i64 0] W fun e w' => e = .returned (.bool false) ∧ OW w0 g [] ws wa wc w' :=
  h.net (belowSame _) fun {lp mp a c} k1 k2 => (swap_net k1 0 0).mono fun e w' ⟨he, ho⟩ => ⟨he, ho.out⟩
/-- The row is laid anew: by an append to it, to nil, or to what was made since. -/
theorem OW.rowNew {ws' : List Int} {wa' : Option Addr} {wc' : Nat} {S : Nat → Prop} (h : OW w0 g ps ws wa wc W) (hk : Keeps S W W') (hS : ∀ k, S k → (Value.slice wa 0 0).ownBlock = some k) (hn : W'.ownsRow w0.heap.size 3 1 (.slice wa' ws'.length wc') ws'.length (ws'.map vi))
    (hat : ∀ k, (Value.slice wa' 0 0).ownBlock = some k → (Value.slice wa 0 0).ownBlock = some k ∨ W.heap.size ≤ k) : OW w0 g ps ws' wa' wc' W' := by
  obtain ⟨lp, a, c, mp, h1, h2, h3, h4⟩ := h
  refine ⟨lp, a, c, mp, h1.keeps hk (fun k h5 h6 => h4 k (hS k h6) h5), hk.after h2 (fun k h6 => (h3.lt k (by rw [own_blk]; exact hS k h6)).1) h2.size, hn, fun k h5 h6 => ?_⟩
  rcases hat k h5 with h7 | h7
  · exact h4 k h7 h6
  · have := h1.lt k h6; omega
theorem OW.app (h : OW w0 g ps ws wa wc W) {t : Int} {wa' : Option Addr} {wc' : Nat} (hn : W'.ownsRow w0.heap.size 3 1 (.slice wa' (ws.length + 1) wc') (ws.length + 1) (ws.map vi ++ [vi t])) (hg : W.grownBy W' (Value.slice wa 0 0).ownBlock)
    (hat : (Value.slice wa' 0 0).ownBlock = (Value.slice wa 0 0).ownBlock ∨ (Value.slice wa' 0 0).ownBlock = some W.heap.size) : OW w0 g ps (ws ++ [t]) wa' wc' W' := by
  refine h.rowNew (S := fun k => (Value.slice wa 0 0).ownBlock = some k) ((Keeps.refl _ W).grown hg (fun _ hk _ => hk)) (fun _ h => h) (by simpa using hn) (fun k hk => ?_)
  rcases hat with h1 | h1
  · exact .inl (h1 ▸ hk)
  · rw [h1] at hk; injection hk with hk; exact .inr (by omega)
/-- Two appends: onto nil, then onto what that made. -/
theorem OW.app2 {W1 : World} (h : OW w0 g ps ws wa wc W) {qs : List Int} {a1 a2 : Option Addr} {n1 c1 c2 : Nat} {xs1 : List Value} (hg1 : W.grownBy W1 (Value.slice none 0 0).ownBlock) (hat1 : (Value.slice a1 0 0).ownBlock = (Value.slice none 0 0).ownBlock ∨ (Value.slice a1 0 0).ownBlock = some W.heap.size)
    (hn : W'.ownsRow w0.heap.size 3 1 (.slice a2 qs.length c2) qs.length (qs.map vi)) (hg2 : W1.grownBy W' (Value.slice a1 0 0).ownBlock)
    (hat2 : (Value.slice a2 0 0).ownBlock = (Value.slice a1 0 0).ownBlock ∨ (Value.slice a2 0 0).ownBlock = some W1.heap.size) : OW w0 g ps qs a2 c2 W' := by
  have e0 : (Value.slice none 0 0).ownBlock = none := rfl
  have s1 := hg1.size
  refine h.rowNew (S := fun k => False) (((Keeps.refl _ W).grown hg1 (fun k hk _ => by rw [e0] at hk; cases hk)).grown hg2 (fun k hk hlt => ?_)) (fun _ h => h.elim) hn (fun k hk => ?_)
  · rcases hat1 with h1 | h1
    · rw [h1, e0] at hk; cases hk
    · rw [h1] at hk; injection hk with hk; omega
  · refine .inr ?_
    rcases hat2 with h2 | h2
    · rw [h2] at hk
      rcases hat1 with h1 | h1
      · rw [h1, e0] at hk; cases hk
      · rw [h1] at hk; injection hk with hk; omega
    · rw [h2] at hk; injection hk with hk; omega
/-- Two cells of the row change places. -/
theorem OW.swapped {b : Nat} (h : OW w0 g ps ws (some ⟨b, 0, none⟩) wc W) (x y : Nat) (u v : Int) : OW w0 g ps ((ws.set x u).set y v) (some ⟨b, 0, none⟩) wc ((W.setCell ⟨b, x, none⟩ (vi u)).setCell ⟨b, y, none⟩ (vi v)) := by
  have hr := h.row
  have h1 := (hr.stored x (vi u)).1
  have h2 := (h1.stored y (vi v)).1
  refine h.rowNew (S := only b) (keep2 W b x y _ _) (fun k hk => by rw [show k = b from hk]; simp [Value.ownBlock]) ?_ (fun k hk => .inl hk)
  simp only [List.length_set, List.map_set]
  simpa using h2
theorem OW.set1 {b : Nat} (h : OW w0 g ps ws (some ⟨b, 0, none⟩) wc W) (x : Nat) (u : Int) : OW w0 g ps (ws.set x u) (some ⟨b, 0, none⟩) wc (W.setCell ⟨b, x, none⟩ (vi u)) := by
  have h1 := (h.row.stored x (vi u)).1
  refine h.rowNew (S := only b) (keep1 W b x _) (fun k hk => by rw [show k = b from hk]; simp [Value.ownBlock]) ?_ (fun k hk => .inl hk)
  simp only [List.length_set, List.map_set]
  simpa using h1
theorem OW.frozen {b : Nat} (h : OW w0 g ps ws (some ⟨b, 0, none⟩) wc W) (hk : 0 < ws.length) (k : Nat) : W.frozen? ⟨b, k, none⟩ = false := by
  rcases h.row.2 with ⟨h0, h1⟩ | ⟨g', cap, cur, h0, _, hg, h1, _⟩
  · injection h0 with h0; cases h0
  · injection h0 with h0 _ _
    injection h0 with h0
    injection h0 with h0
    subst h0
    exact Blk.frozen (t := 3) hg k
theorem OW.cell (h : OW w0 g ps ws wa wc W) {k : Nat} (hk : k < ws.length) : ∃ b, wa = some ⟨b, 0, none⟩ ∧ W.cell? ⟨b, k, none⟩ = some (vi (ws.getD k 0)) := by
  obtain ⟨b, x, h1, h2, h3, _⟩ := ownCell h.row hk
  refine ⟨b, h1, ?_⟩
  rw [h3, ← h2]
  simp [List.getElem?_eq_getElem hk]
end
end Go.Proofs.Ytanhdcffbdhkcaa.netOrders
