/- RingPlays: the ring, the list beside it and the book. No condition. -/
import Derived.Test.YthnlfgogibjbnaaGreatRb11
import Derived.Test.YthnlfgogibjbnaaGreatRingAlive
namespace Go.Proofs.YthnlfgogibjbnaaGreat.RB
set_option maxRecDepth 100000
set_option maxRecDepth 100000
open Go.RowKit Go.Proofs.YthnlfgogibjbnaaGreat.Bk
set_option linter.unusedVariables false
set_option linter.unusedSimpArgs false

abbrev TR : TypeId := 29
def RpAt (w0 : World) (g k most : Nat) (xs ys : List Int) (ax : Option Addr) (cx : Nat) (L M : List Ls) (bl : List (Nat × TypeId × Array Value)) (W : World) : Prop :=
  ∃ a c aI cI aW cW, RingAt RI.val TR TI W w0.heap.size g most a c xs ∧ W.ownsRow w0.heap.size TI 1 (.slice ax ys.length cx) ys.length (ys.map val) ∧ BookAt W w0.heap.size k aI cI aW cW L M ∧ Below w0.heap.size w0 W ∧ Apart (ringF g a) (bookF k aI aW L M) ∧ Apart (fun b => ob ax = some b) (ringF g a) ∧ Apart (fun b => ob ax = some b) (bookF k aI aW L M) ∧ ∀ b ∈ bl, Blk W b.1 b.2.1 b.2.2 ∧ ¬ ringF g a b.1 ∧ ¬ bookF k aI aW L M b.1 ∧ ob ax ≠ some b.1
section
variable {w0 W W' : World} {g k most cx : Nat} {xs xs' ys : List Int} {ax : Option Addr} {L M : List Ls} {bl bl' : List (Nat × TypeId × Array Value)} {P : Ending → Prop} {f : Nat} {args : Array Value}
theorem RpAt.bel (h : RpAt w0 g k most xs ys ax cx L M bl W) : Below w0.heap.size w0 W := by obtain ⟨_, _, _, _, _, _, _, _, _, hb, _⟩ := h; exact hb
theorem RpAt.side (h : RpAt w0 g k most xs ys ax cx L M bl W) {b : Nat × TypeId × Array Value} (hb : b ∈ bl) : Blk W b.1 b.2.1 b.2.2 := by obtain ⟨_, _, _, _, _, _, _, _, _, _, _, _, _, h8⟩ := h; exact (h8 b hb).1
theorem RpAt.b0 {x : Nat} {T : TypeId} {vs : Array Value} (h : RpAt w0 g k most xs ys ax cx L M ((x, T, vs) :: bl) W) : Blk W x T vs := h.side (b := (x, T, vs)) (List.mem_cons_self ..)
theorem RpAt.b1 {x : Nat} {T : TypeId} {vs : Array Value} {y : Nat × TypeId × Array Value} (h : RpAt w0 g k most xs ys ax cx L M (y :: (x, T, vs) :: bl) W) : Blk W x T vs := h.side (b := (x, T, vs)) (by simp)
theorem RpAt.less (h : RpAt w0 g k most xs ys ax cx L M bl W) (hs : ∀ b ∈ bl', b ∈ bl) : RpAt w0 g k most xs ys ax cx L M bl' W := by
  obtain ⟨a, c, aI, cI, aW, cW, h1, h2, h3, h4, h5, h6, h7, h8⟩ := h
  exact ⟨a, c, aI, cI, aW, cW, h1, h2, h3, h4, h5, h6, h7, fun b hb => h8 b (hs b hb)⟩
theorem RpAt.pop {y : Nat × TypeId × Array Value} (h : RpAt w0 g k most xs ys ax cx L M (y :: bl) W) : RpAt w0 g k most xs ys ax cx L M bl W := h.less fun b hb => List.mem_cons_of_mem _ hb
theorem RpAt.le (h : RpAt w0 g k most xs ys ax cx L M bl W) : xs.length ≤ most := by
  obtain ⟨a, c, aI, cI, aW, cW, h1, h2, h3, h4, h5, h6, h7, h8⟩ := h
  exact h1.le
theorem RpAt.row (h : RpAt w0 g k most xs ys ax cx L M bl W) : W.ownsRow w0.heap.size TI 1 (.slice ax ys.length cx) ys.length (ys.map val) := by
  obtain ⟨a, c, aI, cI, aW, cW, h1, h2, h3, h4, h5, h6, h7, h8⟩ := h
  exact h2
theorem RpAt.ringAt (h : RpAt w0 g k most xs ys ax cx L M bl W) : ∃ a c, RingAt RI.val TR TI W w0.heap.size g most a c xs := by
  obtain ⟨a, c, aI, cI, aW, cW, h1, h2, h3, h4, h5, h6, h7, h8⟩ := h
  exact ⟨a, c, h1⟩
theorem RpAt.bookAt (h : RpAt w0 g k most xs ys ax cx L M bl W) : ∃ aI cI aW cW, BookAt W w0.heap.size k aI cI aW cW L M := by
  obtain ⟨a, c, aI, cI, aW, cW, h1, h2, h3, h4, h5, h6, h7, h8⟩ := h
  exact ⟨aI, cI, aW, cW, h3⟩
theorem RpAt.then_ (h : RpAt w0 g k most xs ys ax cx L M bl W) (hb : Below W.heap.size W W') : RpAt w0 g k most xs ys ax cx L M bl W' := by
  obtain ⟨a, c, aI, cI, aW, cW, h1, h2, h3, h4, h5, h6, h7, h8⟩ := h
  have hk := Keeps.of_below hb (fun _ => False)
  exact ⟨a, c, aI, cI, aW, cW, h1.keeps hk (fun _ _ h => h), own_keeps h2 hk (fun _ _ h => h), h3.old hb, belowThen h4 hb, h5, h6, h7, fun b hbl => ⟨(h8 b hbl).1.below hb (h8 b hbl).1.lt, (h8 b hbl).2⟩⟩
theorem RpAt.drew (h : RpAt w0 g k most xs ys ax cx L M bl W) : RpAt w0 g k most xs ys ax cx L M bl W.drew := h.then_ (belowDrew (belowSame _))
theorem RpAt.drewN (h : RpAt w0 g k most xs ys ax cx L M bl W) (n : Nat) : RpAt w0 g k most xs ys ax cx L M bl (W.drewN n) := h.then_ (belowDrewN (belowSame _) n)
/-- A block made behind stands beside. -/
theorem RpAt.side_new (h : RpAt w0 g k most xs ys ax cx L M bl W) (hb : Below W.heap.size W W') {x : Nat} {T : TypeId} {vs : Array Value} (hx : Blk W' x T vs) (hge : W.heap.size ≤ x) : RpAt w0 g k most xs ys ax cx L M ((x, T, vs) :: bl) W' := by
  have h' := h.then_ hb
  obtain ⟨a, c, aI, cI, aW, cW, h1, h2, h3, h4, h5, h6, h7, h8⟩ := h
  have hk := Keeps.of_below hb (fun _ => False)
  refine ⟨a, c, aI, cI, aW, cW, h1.keeps hk (fun _ _ h => h), own_keeps h2 hk (fun _ _ h => h), h3.old hb, belowThen h4 hb, h5, h6, h7, fun b hbl => ?_⟩
  rcases List.mem_cons.1 hbl with e | hbl
  · subst e
    refine ⟨hx, fun q => ?_, fun q => ?_, fun q => ?_⟩
    · have := h1.lt _ q; dsimp only at this; omega
    · have := h3.lt _ q; dsimp only at this; omega
    · have := (h2.lt _ (by rw [ob_of]; exact q)).2; dsimp only at this; omega
  · exact ⟨(h8 b hbl).1.below hb (h8 b hbl).1.lt, (h8 b hbl).2⟩
/-- From a call of the ring. -/
theorem RpAt.ring (h : RpAt w0 g k most xs ys ax cx L M bl W) (hc : ∀ {a : Option Addr} {c : Nat}, RingAt RI.val TR TI W w0.heap.size g most a c xs → Calls Tryz.prog f args W fun e w' => P e ∧ RingOut RI.val TR TI W w0.heap.size g most a xs' w') :
    Calls Tryz.prog f args W fun e w' => P e ∧ RpAt w0 g k most xs' ys ax cx L M bl w' := by
  obtain ⟨a, c, aI, cI, aW, cW, h1, h2, h3, h4, h5, h6, h7, h8⟩ := h
  refine (hc h1).mono ?_
  rintro e w' ⟨hP, a', c', k1, k2, k3⟩
  refine ⟨hP, a', c', aI, cI, aW, cW, k1, own_keeps h2 k2 (fun b hb => h6 b (by rw [← ob_of]; exact hb)), h3.keeps k2 h5.symm, k2.after h4 h1.geF h1.base, k3.apart h5 h3.lt, ?_, h7, fun b hb => ⟨(h8 b hb).1.keeps k2 (h8 b hb).2.1, fun hk => ?_, (h8 b hb).2.2⟩⟩
  · intro b hb hr
    rcases k3 b hr with q | q
    · exact h6 b hb q
    · have := (h2.lt b (by rw [ob_of]; exact hb)).2; omega
  · rcases k3 b.1 hk with q | q
    · exact (h8 b hb).2.1 q
    · have := (h8 b hb).1.lt; omega
/-- The list beside it is laid anew. -/
theorem RpAt.newx (h : RpAt w0 g k most xs ys ax cx L M bl W) (hb : Below W.heap.size W W') {a' : Option Addr} {n c' : Nat} {zs : List Int} (ho : W'.ownsRow W.heap.size TI 1 (.slice a' n c') n (zs.map val)) (hn : zs.length = n) : RpAt w0 g k most xs zs a' c' L M bl W' := by
  subst hn
  have h' := h.then_ hb
  obtain ⟨a, c, aI, cI, aW, cW, h1, h2, h3, h4, h5, h6, h7, h8⟩ := h
  have hk := Keeps.of_below hb (fun _ => False)
  have hge : ∀ b, ob a' = some b → W.heap.size ≤ b := fun b hb => (ho.lt b (by rw [ob_of]; exact hb)).1
  refine ⟨a, c, aI, cI, aW, cW, h1.keeps hk (fun _ _ h => h), own_base ho (fun b hb => ?_), h3.old hb, belowThen h4 hb, h5, fun b q1 q2 => ?_, fun b q1 q2 => ?_, fun b hbl => ⟨(h8 b hbl).1.below hb (h8 b hbl).1.lt, (h8 b hbl).2.1, (h8 b hbl).2.2.1, fun q => ?_⟩⟩
  · have q1 := (ho.lt b hb).1; have q2 := h3.base; omega
  · have := hge b q1; have := h1.lt b q2; omega
  · have := hge b q1; have := h3.lt b q2; omega
  · have := hge _ q; have := (h8 b hbl).1.lt; omega
theorem RpAt.nilx (h : RpAt w0 g k most xs ys ax cx L M bl W) : RpAt w0 g k most xs [] none 0 L M bl W := h.newx (belowSame _) (zs := []) (World.ownsRow_nil _ _ _ _) rfl
/-- A place of the list beside it is laid anew. -/
theorem RpAt.setx (h : RpAt w0 g k most xs ys ax cx L M bl W) {j : Nat} (hj : j < ys.length) (v : Int) : ∃ b u, ax = some ⟨b, 0, none⟩ ∧ W.cell? ⟨b, j, none⟩ = some u ∧ W.frozen? ⟨b, j, none⟩ = false ∧ RpAt w0 g k most xs (ys.set j v) ax cx L M bl (W.setCell ⟨b, j, none⟩ (.int .i64 v)) := by
  obtain ⟨a, c, aI, cI, aW, cW, h1, h2, h3, h4, h5, h6, h7, h8⟩ := h
  obtain ⟨b, rfl⟩ := own_place h2 (by omega)
  have hc := h2.cells (g := b) rfl j (val ys[j]) (by simp [List.getElem?_eq_getElem hj])
  rw [Go.WideShapes.add_plain, Nat.zero_add] at hc
  have hf : W.frozen? ⟨b, j, none⟩ = false := by
    rcases h2.2 with ⟨h0, _⟩ | ⟨g', cap', cur, h0, _, hh, _⟩
    · injection h0 with h1 _ _; cases h1
    · injection h0 with h1 _ _
      injection h1 with h1
      injection h1 with h1 _
      subst h1
      simp [World.frozen?, hh]
  have kc : Keeps (fun k => k = b) W (W.setCell ⟨b, j, none⟩ (.int .i64 v)) := Keeps.setCell (S := fun k => k = b) (p := ⟨b, j, none⟩) (Keeps.refl _ _) (fun _ => rfl) _
  have hob : ob (some ⟨b, 0, none⟩) = some b := rfl
  have hs := (h2.stored j (.int .i64 v)).1
  refine ⟨b, _, rfl, hc, hf, a, c, aI, cI, aW, cW, h1.keeps kc (fun q q1 e => h6 b hob (e ▸ q1)), ?_, h3.keeps kc (fun q q1 e => h7 b hob (e ▸ q1)), kc.after h4 (fun q e => by have := (h2.lt b rfl).1; omega) h3.base, h5, h6, h7, fun x hx => ⟨(h8 x hx).1.keeps kc (fun e => (h8 x hx).2.2.2 (by rw [hob, e])), (h8 x hx).2⟩⟩
  simp only [List.length_set, List.map_set]
  exact hs
/-- One more list in the book. -/
theorem RpAt.ints (h : RpAt w0 g k most xs ys ax cx L M bl W) (hb : Below W.heap.size W W') {la : Option Addr} {n lc : Nat} {zs : List Int} (ho : W'.ownsRow W.heap.size TI 1 (.slice la n lc) n (zs.map val)) (hn : zs.length = n) (hL : L.length ≤ 200) (hM : M.length ≤ 200) (hz : zs.length ≤ 100000) :
    Calls Tryz.prog 16 #[.pointer (some ⟨k, 0, none⟩), .slice la n lc] W' fun e w' => e = .returned (.tuple #[]) ∧ ∃ m, m.xs = zs ∧ RpAt w0 g k most xs ys ax cx (L ++ [⟨la, lc, zs⟩]) (M ++ [m]) bl w' ∧ Lies w' 1 la n (zs.map val) := by
  obtain ⟨a, c, aI, cI, aW, cW, h1, h2, h3, h4, h5, h6, h7, h8⟩ := h
  have hk := Keeps.of_below hb (fun _ => False)
  have hge : ∀ b, ob la = some b → W.heap.size ≤ b := fun b hb => (ho.lt b (by rw [ob_of]; exact hb)).1
  have hown : OwnL W' w0.heap.size ⟨la, lc, zs⟩ := by
    subst hn
    exact own_base ho (fun b hb => by have q1 := (ho.lt b hb).1; have q2 := h3.base; omega)
  refine (ints_any (h3.old hb) hL hM la lc n zs hn hown (fun b q1 q2 => by have := hge b q1; have := h3.lt b q2; omega) hz).mono ?_
  rintro e w' ⟨he, aI', cI', aW', cW', m, hm, hB, hK, hG⟩
  have hs := hb.size
  have gr : ∀ b, bookF k aI' aW' (L ++ [⟨la, lc, zs⟩]) (M ++ [m]) b → bookF k aI aW L M b ∨ W.heap.size ≤ b := by
    intro b q
    rcases hG b q with q | q | q
    · exact .inl q
    · exact .inr (hge b q)
    · exact .inr (Nat.le_trans hs q)
  refine ⟨he, m, hm, ⟨a, c, aI', cI', aW', cW', ?_, ?_, hB, ?_, ?_, h6, ?_, fun b hbl => ⟨?_, (h8 b hbl).2.1, fun q => ?_, (h8 b hbl).2.2.2⟩⟩, ?_⟩
  · refine (h1.keeps hk (fun _ _ h => h)).keeps hK (fun b q1 q2 => ?_)
    rcases q2 with q2 | q2
    · exact h5 b q1 q2
    · have := hge b q2; have := h1.lt b q1; omega
  · refine own_keeps (own_keeps h2 hk (fun _ _ h => h)) hK (fun b q1 q2 => ?_)
    rcases q2 with q2 | q2
    · exact h7 b (by rw [← ob_of]; exact q1) q2
    · have := hge b q2; have := (h2.lt b q1).2; omega
  · exact hK.after (belowThen h4 hb) (fun b q => by
      rcases q with q | q
      · exact h3.geF b q
      · have := hge b q; have := h3.base; omega) (Nat.le_trans h3.base hs)
  · intro b q1 q2
    rcases gr b q2 with q | q
    · exact h5 b q1 q
    · have := h1.lt b q1; omega
  · intro b q1 q2
    rcases gr b q2 with q | q
    · exact h7 b q1 q
    · have := (h2.lt b (by rw [ob_of]; exact q1)).2; omega
  · exact ((h8 b hbl).1.below hb (h8 b hbl).1.lt).keeps hK (fun q => by
      rcases q with q | q
      · exact (h8 b hbl).2.2.1 q
      · have := hge _ q; have := (h8 b hbl).1.lt; omega)
  · rcases gr b.1 q with q | q
    · exact (h8 b hbl).2.2.1 q
    · have := (h8 b hbl).1.lt; omega
  · have := hB.i.own ⟨la, lc, zs⟩ (by simp)
    subst hn
    exact Lies.of_own this
end
theorem RpAt.start {w0 W : World} {g most c : Nat} {a : Option Addr} (h : RingAt RI.val TR TI W w0.heap.size g most a c []) (hb : Below w0.heap.size w0 W) : RpAt w0 g W.heap.size most [] [] none 0 [] [] [] (W.alloc (.cells (bcells nils nils) TB)) := by
  have hn := belowNew (belowSame W) (.cells (bcells nils nils) TB)
  have hs := hb.size
  have no : ∀ b, ¬ ob none = some b := fun b e => by simp [ob, Value.ownBlock] at e
  have nl : ∀ b, ¬ listsF none [] b := fun b e => by rcases e with e | ⟨l, hl, _⟩; exact no b e; simp at hl
  refine ⟨a, c, none, 0, none, 0, h.keeps (Keeps.of_below hn (fun _ => False)) (fun _ _ h => h), World.ownsRow_nil _ _ _ _, ⟨Blk.new _ _ _, ListsAt.empty_ _ _, ListsAt.empty_ _ _, hs, fun b q _ => nl b q⟩, belowThen hb hn, fun b q1 q2 => ?_, fun b q => absurd q (no b), fun b q => absurd q (no b), fun b hb => by cases hb⟩
  rcases q2 with q2 | q2 | q2
  · have := h.lt b q1; omega
  · exact nl b q2
  · exact nl b q2
theorem zero_ring {w0 W : World} (hb : Below w0.heap.size w0 W) : RingAt RI.val TR TI (W.alloc (.cells #[.slice none 0 0, .int .i64 0] TR)) w0.heap.size W.heap.size 0 none 0 [] := ⟨Blk.new _ _ _, World.ownsRow_nil _ _ _ _, hb.size, Nat.le_refl _, by omega⟩
theorem room_ref (z : Int) (w : World) : Calls Tryz.prog 6 #[.int .i64 z] w fun e w' => e = .returned (.int .i64 (RI.roomOf z : Int)) ∧ w = w' := by
  by_cases h0 : z < 0
  · go_enter Tryz.func6, Tryz.ntmps6
    go_wp2
    go_ret
    exact ⟨ret_int (by unfold RI.roomOf; omega), rfl⟩
  · by_cases h1 : 100000 < z
    · go_enter Tryz.func6, Tryz.ntmps6
      go_wp2
      go_ret
      exact ⟨ret_int (by unfold RI.roomOf; omega), rfl⟩
    · go_enter Tryz.func6, Tryz.ntmps6
      go_wp2
      go_ret
      exact ⟨ret_int (by unfold RI.roomOf; omega), rfl⟩
end Go.Proofs.YthnlfgogibjbnaaGreat.RB
