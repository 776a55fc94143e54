/- commonsbook.Book: growInts, what stands in memory. No condition. -/
import Derived.Test.YthnlfgogibjbnaaGreatRb7
import Derived.Test.YthnlfgogibjbnaaGreatRb8
namespace Go.Proofs.YthnlfgogibjbnaaGreat.RB
set_option maxRecDepth 100000
set_option maxRecDepth 100000
open Go.RowKit Go.Proofs.YthnlfgogibjbnaaGreat.Bk
set_option linter.unusedVariables false
set_option linter.unusedSimpArgs false

/-- A list that grows: what it holds now, and the elder slice under it. -/
def Cur (wr : World) (B : Nat) (la : Option Addr) (z i j : Nat) (a5 : Option Addr) (c5 : Nat) (wx : World) : Prop :=
  wx.ownsRow B TI 1 (.slice a5 (z + j) c5) (z + j) ((marks i 0 (z + j)).map val) ∧ Lies wx 1 la z ((marks i 0 z).map val) ∧ (ob a5 = ob la ∨ ∃ b, ob a5 = some b ∧ wr.heap.size ≤ b) ∧ Keeps (fun b => ob la = some b) wr wx
section
variable {wr wx w1 w2 : World} {B z i j m c5 c' : Nat} {la a5 a' : Option Addr}
theorem Cur.old (h : Cur wr B la z i j a5 c5 wx) (hb : Below wx.heap.size wx w1) : Cur wr B la z i j a5 c5 w1 :=
  ⟨own_keeps h.1 (Keeps.of_below hb (fun _ => False)) (fun _ _ h => h), h.2.1.old (by decide) hb, h.2.2.1, h.2.2.2.trans (Keeps.of_below hb (fun _ => False)) (fun _ _ h => h.elim)⟩
theorem Cur.start {c : Nat} {xs : List Int} (h : OwnL wr B ⟨la, c, xs⟩) (hz : xs = marks i 0 z) : Cur wr B la z i 0 la c wr := by
  subst hz
  unfold OwnL at h
  rw [marks_len] at h
  exact ⟨h, Lies.of_own h, .inl rfl, Keeps.refl _ _⟩
theorem Cur.step (h : Cur wr B la z i j a5 c5 wx) (hla : 0 < z → ∃ g, la = some ⟨g, 0, none⟩) (hb : Below wx.heap.size wx w1) (ho : w2.ownsRow B TI 1 (.slice a' (z + j + m) c') (z + j + m) ((marks i 0 (z + j)).map val ++ (marks i (z + j) m).map val))
    (hk : w2.ownsRow B TI 1 (.slice a5 (z + j) c5) (z + j) ((marks i 0 (z + j)).map val)) (hg : w1.grownBy w2 (Value.slice a5 0 0).ownBlock) (hat : (Value.slice a' 0 0).ownBlock = (Value.slice a5 0 0).ownBlock ∨ (Value.slice a' 0 0).ownBlock = some w1.heap.size) : Cur wr B la z i (j + m) a' c' w2 := by
  have h1 := h.old hb
  have kg : Keeps (fun b => ob a5 = some b) w1 w2 := (Keeps.refl _ w1).grown hg (fun k e _ => e)
  rw [← List.map_append, marks_add, Nat.add_assoc] at ho
  refine ⟨ho, ?_, ?_, ?_⟩
  · rcases Nat.eq_zero_or_pos z with hz | hz
    · subst hz; exact ⟨by simp [marks], fun h => absurd h (by omega)⟩
    · obtain ⟨g, rfl⟩ := hla hz
      by_cases e : ob a5 = some g
      · obtain ⟨g', rfl⟩ := own_place hk (by omega)
        have e2 : g' = g := by simpa [ob, Value.ownBlock] using e
        subst e2
        have hk2 := hk
        rw [← marks_add, List.map_append] at hk2
        exact own_take hk2 (by omega) (by simp [marks_len])
      · exact h1.2.1.keeps (by decide) kg (fun ad e3 e4 => by injection e3 with e3; subst e3; exact e e4)
  · rcases hat with e | e
    · rcases h.2.2.1 with h3 | ⟨b, h3, h4⟩
      · exact .inl (Eq.trans e h3)
      · exact .inr ⟨b, Eq.trans e h3, h4⟩
    · exact .inr ⟨_, e, h1.2.2.2.size⟩
  · exact h1.2.2.2.trans kg (fun b hb2 e => by
      rcases h.2.2.1 with h3 | ⟨b', h3, h4⟩
      · rw [← h3]; exact e
      · have e2 : some b = some b' := by rw [← h3]; exact e.symm
        injection e2 with e2
        omega)
end
/-- The first i lists have grown. -/
def GrowAt (w : World) (B : Nat) (L : List Ls) (i : Nat) (ao : Option Addr) (co : Nat) (G : List Ls) (wr : World) : Prop :=
  G.length = i ∧ wr.ownsRow w.heap.size TL 1 (.slice ao i co) i (G.map hdr) ∧
  (∀ q g l, G[q]? = some g → L[q]? = some l → g.xs = marks q 0 (l.xs.length + 72) ∧ OwnL wr B g ∧ Lies wr 1 l.a l.xs.length (l.xs.map val) ∧ (ob g.a = ob l.a ∨ ∃ b, ob g.a = some b ∧ w.heap.size ≤ b)) ∧
  Keeps (fun b => ∃ q l, q < i ∧ L[q]? = some l ∧ ob l.a = some b) w wr
section
variable {w wr w2 w4 : World} {B k cI i co c5 c' z : Nat} {aI ao a5 a' : Option Addr} {V : Value} {L G : List Ls} {l : Ls}
theorem GrowAt.start (w : World) (B : Nat) (L : List Ls) : GrowAt w B L 0 none 0 [] w := ⟨rfl, World.ownsRow_nil _ _ _ _, fun q g l h => by simp at h, Keeps.refl _ _⟩
theorem GrowAt.list (h : GrowAt w B L i ao co G wr) (hb : BookI w B k aI cI V L) (hl : L[i]? = some l) : OwnL wr B l :=
  (hb.i.own l (List.mem_of_getElem? hl)).keeps h.2.2.2 (fun b h1 ⟨q, l', hq, hl', h2⟩ => hb.i.sep hl' hl (by omega) b h2 h1)
theorem GrowAt.book (h : GrowAt w B L i ao co G wr) (hb : BookI w B k aI cI V L) : Blk wr k TB (bcells (.slice aI L.length cI) V) :=
  hb.blk.keeps h.2.2.2 (fun ⟨q, l', hq, hl', h2⟩ => row_k (hb.i.own l' (List.mem_of_getElem? hl')) hb.blk (by decide) h2)
theorem GrowAt.row (h : GrowAt w B L i ao co G wr) (hb : BookI w B k aI cI V L) : wr.ownsRow B TL 1 (.slice aI L.length cI) L.length (L.map hdr) :=
  own_keeps hb.i.row h.2.2.2 (fun b h1 ⟨q, l', hq, hl', h2⟩ => hb.i.apart (hb.i.own l' (List.mem_of_getElem? hl')) b h2 (by rw [← ob_of]; exact h1))
theorem GrowAt.old (h : GrowAt w B L i ao co G wr) (hb : Below wr.heap.size wr w2) : GrowAt w B L i ao co G w2 :=
  ⟨h.1, own_keeps h.2.1 (Keeps.of_below hb (fun _ => False)) (fun _ _ h => h), fun q g l hg hl => ⟨(h.2.2.1 q g l hg hl).1, (h.2.2.1 q g l hg hl).2.1.old hb, (h.2.2.1 q g l hg hl).2.2.1.old (by decide) hb, (h.2.2.1 q g l hg hl).2.2.2⟩, h.2.2.2.trans (Keeps.of_below hb (fun _ => False)) (fun _ _ h => h.elim)⟩
theorem GrowAt.outKept (h : GrowAt w B L i ao co G wr) (hb : BookI w B k aI cI V L) (hl : L[i]? = some l) {j : Nat} (hc : Cur wr B l.a z i j a5 c5 w2) : w2.ownsRow w.heap.size TL 1 (.slice ao i co) i (G.map hdr) :=
  own_keeps h.2.1 hc.2.2.2 (fun b h1 h2 => by
    have h3 := (h.2.1.lt b h1).1
    have h4 := ((hb.i.own l (List.mem_of_getElem? hl)).lt b h2).2
    omega)
theorem GrowAt.next (h : GrowAt w B L i ao co G wr) (hb : BookI w B k aI cI V L) (hl : L[i]? = some l) (hm : l.xs = marks i 0 z) (hc : Cur wr B l.a z i 72 a5 c5 w2) {o : Obj} (ho : w4.ownsRow w.heap.size TL 1 (.slice a' (i + 1) c') (i + 1) (G.map hdr ++ [.slice a5 (z + 72) c5])) (hg : (w2.alloc o).grownBy w4 (Value.slice ao 0 0).ownBlock) :
    GrowAt w B L (i + 1) a' c' (G ++ [⟨a5, c5, marks i 0 (z + 72)⟩]) w4 := by
  have hz : l.xs.length = z := by rw [hm, marks_len]
  have hwl := hb.i.own l (List.mem_of_getElem? hl)
  have hrow := h.outKept hb hl hc
  have ka := belowNew (belowSame w2) o
  have kg : Keeps (fun b => ob ao = some b) (w2.alloc o) w4 := (Keeps.refl _ _).grown hg (fun k e _ => e)
  have hao : ∀ b, ob ao = some b → w.heap.size ≤ b := fun b h1 => (h.2.1.lt b (by rw [ob_of]; exact h1)).1
  -- what is kept of a list that owns its row
  have mv : ∀ g : Ls, OwnL w2 B g → OwnL w4 B g := fun g hgo => (hgo.old ka).keeps kg (fun b h1 h2 => own_apart hgo hrow (by decide) b h1 h2)
  have lv : ∀ (x : Ls) (n : Nat) (ys : List Value), x ∈ L → Lies w2 1 x.a n ys → Lies w4 1 x.a n ys := fun x n ys hx hy =>
    (hy.old (by decide) ka).keeps (by decide) kg (fun ad e1 e2 => by
      have h3 := hao _ e2
      have h4 := ((hb.i.own x hx).lt ad.block (by rw [e1]; rfl)).2
      omega)
  refine ⟨by simp [h.1], by simpa [hdr, marks_len] using ho, fun q g l' hgq hlq => ?_, ?_⟩
  · by_cases hq : q < i
    · have hgq : G[q]? = some g := by rwa [List.getElem?_append_left (by rw [h.1]; exact hq)] at hgq
      obtain ⟨g1, g2, g3, g4⟩ := h.2.2.1 q g l' hgq hlq
      refine ⟨g1, mv g (g2.keeps hc.2.2.2 fun b h1 h2 => ?_), lv l' _ _ (List.mem_of_getElem? hlq) (g3.keeps (by decide) hc.2.2.2 fun ad e1 e2 => hb.i.sep hlq hl (by omega) ad.block (by rw [e1]; rfl) e2), g4⟩
      rcases g4 with g4 | ⟨b', g4, g5⟩
      · exact hb.i.sep hlq hl (by omega) b (by rw [← g4]; exact h1) h2
      · have e : some b = some b' := by rw [← h1, g4]
        injection e with e
        have := (hwl.lt b h2).2
        omega
    · have hqi : q = i := by
        have := get_lt hgq
        simp [h.1] at this
        omega
      subst hqi
      rw [List.getElem?_append_right (by rw [h.1]; exact Nat.le_refl _)] at hgq
      simp [h.1] at hgq
      subst hgq
      have e : l' = l := by rw [hl] at hlq; injection hlq with hlq; exact hlq.symm
      subst e
      refine ⟨by rw [hz], mv _ (by unfold OwnL; rw [marks_len]; exact hc.1), lv l' _ _ (List.mem_of_getElem? hl) (by rw [hz, hm]; exact hc.2.1), ?_⟩
      rcases hc.2.2.1 with h3 | ⟨b, h3, h4⟩
      · exact .inl h3
      · exact .inr ⟨b, h3, Nat.le_trans h.2.2.2.size h4⟩
  · refine ((h.2.2.2.mono (S' := fun b => ∃ q l, q < i + 1 ∧ L[q]? = some l ∧ ob l.a = some b) fun b _ ⟨q, l', h1, h2, h3⟩ => ⟨q, l', by omega, h2, h3⟩).trans hc.2.2.2 fun b hb2 h1 => ⟨i, l, by omega, hl, h1⟩).trans ((Keeps.of_below ka (fun b => ob ao = some b)).trans kg (fun _ _ h => h)) fun b hb2 h1 => ?_
    have := hao b h1
    omega
def GrowOut (w : World) (aI : Option Addr) (n : Nat) (L : List Ls) (e : Ending) (w' : World) : Prop :=
  ∃ ao co G, e = .returned (.slice ao n co) ∧ n ≤ co ∧ co ≤ maxLen ∧ MarkedAt w' ao n G ∧ MarkedAt w' aI n L ∧ Keeps (listsF aI L) w w' ∧ ∀ g ∈ G, g.xs.length ≤ 10072
theorem GrowAt.done (h : GrowAt w B L L.length ao co G wr) (hb : BookI w B k aI cI V L) (hm : ∀ q l, L[q]? = some l → l.xs = marks q 0 l.xs.length) (hx : ∀ l ∈ L, l.xs.length ≤ 10000) : GrowOut w aI L.length L (.returned (.slice ao L.length co)) wr := by
  have hcp := own_caps h.2.1
  have hgl : ∀ q g, G[q]? = some g → ∃ l, L[q]? = some l := fun q g hq => ⟨_, List.getElem?_eq_getElem (by have := get_lt hq; rw [h.1] at this; exact this)⟩
  refine ⟨ao, co, G, rfl, hcp.1, hcp.2, ⟨h.1, fun h0 => ?_, fun q g hq => ?_⟩, ⟨rfl, fun h0 => ?_, fun q l hq => ?_⟩, ?_, fun g hg => ?_⟩
  · obtain ⟨b, rfl⟩ := own_place h.2.1 h0
    refine ⟨b, rfl, fun q g hq => ?_⟩
    have := h.2.1.cells (g := b) rfl q (hdr g) (by simp [hq])
    rwa [Go.WideShapes.add_plain, Nat.zero_add] at this
  · obtain ⟨l, hl⟩ := hgl q g hq
    obtain ⟨g1, g2, _⟩ := h.2.2.1 q g l hq hl
    refine ⟨by rw [g1, marks_len], Lies.of_own g2⟩
  · have hr := h.row hb
    obtain ⟨b, rfl⟩ := own_place hr h0
    refine ⟨b, rfl, fun q g hq => ?_⟩
    have := hr.cells (g := b) rfl q (hdr g) (by simp [hq])
    rwa [Go.WideShapes.add_plain, Nat.zero_add] at this
  · obtain ⟨g, hg⟩ : ∃ g, G[q]? = some g := ⟨_, List.getElem?_eq_getElem (by rw [h.1]; exact get_lt hq)⟩
    exact ⟨hm q l hq, (h.2.2.1 q g l hg hq).2.2.1⟩
  · exact h.2.2.2.mono fun b _ ⟨q, l, _, hl, h2⟩ => .inr ⟨l, List.mem_of_getElem? hl, h2⟩
  · obtain ⟨q, hq⟩ := List.getElem?_of_mem hg
    obtain ⟨l, hl⟩ := hgl q g hq
    rw [(h.2.2.1 q g l hq hl).1, marks_len]
    have := hx l (List.mem_of_getElem? hl)
    omega
end
end Go.Proofs.YthnlfgogibjbnaaGreat.RB
