/- commonsbook.Book: a book that holds lists of integers. No condition. -/
import Derived.Test.YthnlfgogibjbnaaGreatRb2
namespace Go.Proofs.YthnlfgogibjbnaaGreat.RB
set_option maxRecDepth 100000
set_option maxRecDepth 100000
open Go.RowKit Go.Proofs.YthnlfgogibjbnaaGreat.Bk
set_option linter.unusedVariables false
set_option linter.unusedSimpArgs false

abbrev TB : TypeId := 47
abbrev TS : TypeId := 32
structure Ls where
  a : Option Addr
  c : Nat
  xs : List Int
def hdr (l : Ls) : Value := .slice l.a l.xs.length l.c
def ob (a : Option Addr) : Option Nat := (Value.slice a 0 0).ownBlock
theorem ob_of (a : Option Addr) (n c : Nat) : (Value.slice a n c).ownBlock = ob a := own_blk a n c
abbrev nils : Value := .slice none 0 0
abbrev bcells (A B : Value) : Array Value := #[nils, nils, A, B, nils, nils, nils, nils, nils, nils, nils, nils, nils, nils, nils, nils, nils, nils, nils, nils, nils, nils, nils, nils, nils, nils, nils, nils, nils, nils]
def OwnL (w : World) (B : Nat) (l : Ls) : Prop := w.ownsRow B TI 1 (.slice l.a l.xs.length l.c) l.xs.length (l.xs.map val)
/-- Rows of different types lie in different blocks. -/
theorem own_apart {w : World} {B1 B2 s1 s2 n1 n2 c1 c2 : Nat} {e1 e2 : TypeId} {a1 a2 : Option Addr} {xs ys : List Value} (h1 : w.ownsRow B1 e1 s1 (.slice a1 n1 c1) n1 xs) (h2 : w.ownsRow B2 e2 s2 (.slice a2 n2 c2) n2 ys) (hne : e1 ≠ e2) : ∀ b, ob a1 = some b → ob a2 ≠ some b := by
  intro b k1 k2
  rcases h1.2 with ⟨e, _⟩ | ⟨g, cap, cur, e, _, hh, _⟩
  · injection e with e; subst e; simp [ob, Value.ownBlock] at k1
  · injection e with e; subst e
    rcases h2.2 with ⟨e, _⟩ | ⟨g', cap', cur', e, _, hh', _⟩
    · injection e with e; subst e; simp [ob, Value.ownBlock] at k2
    · injection e with e; subst e
      simp [ob, Value.ownBlock] at k1 k2
      subst k1
      subst k2
      rw [hh] at hh'
      injection hh' with hh'
      injection hh' with q1 q2 q3
      exact hne q2
/-- A row of lists, each in memory of its own. -/
structure ListsAt (w : World) (B : Nat) (a : Option Addr) (c : Nat) (L : List Ls) : Prop where
  row : w.ownsRow B TL 1 (.slice a L.length c) L.length (L.map hdr)
  own : ∀ l ∈ L, OwnL w B l
  dis : L.Pairwise (fun l m => ∀ b, ob l.a = some b → ob m.a ≠ some b)
def listsF (a : Option Addr) (L : List Ls) : Nat → Prop := fun b => ob a = some b ∨ ∃ l ∈ L, ob l.a = some b
section
variable {w w' w1 w2 : World} {B c c' : Nat} {a a' : Option Addr} {L : List Ls} {l : Ls}
theorem OwnL.lt (h : OwnL w B l) : ∀ b, ob l.a = some b → B ≤ b ∧ b < w.heap.size := fun b hb => World.ownsRow.lt h b (by rw [ob_of]; exact hb)
theorem OwnL.keeps {S : Nat → Prop} (h : OwnL w B l) (hk : Keeps S w w') (hn : ∀ b, ob l.a = some b → ¬ S b) : OwnL w' B l := own_keeps h hk (fun b hb => hn b (by rw [← ob_of]; exact hb))
theorem OwnL.old (h : OwnL w B l) (hb : Below w.heap.size w w') : OwnL w' B l := h.keeps (Keeps.of_below hb (fun _ => False)) (fun _ _ h => h)
theorem ListsAt.rowlt (h : ListsAt w B a c L) : ∀ b, ob a = some b → B ≤ b ∧ b < w.heap.size := fun b hb => h.row.lt b (by rw [ob_of]; exact hb)
theorem ListsAt.lt (h : ListsAt w B a c L) : ∀ b, listsF a L b → B ≤ b ∧ b < w.heap.size := by
  intro b hb
  rcases hb with hb | ⟨l, hl, hb⟩
  · exact h.rowlt b hb
  · exact (h.own l hl).lt b hb
theorem ListsAt.keeps {S : Nat → Prop} (h : ListsAt w B a c L) (hk : Keeps S w w') (hn : Apart (listsF a L) S) : ListsAt w' B a c L :=
  ⟨own_keeps h.row hk (fun b hb => hn b (.inl (by rw [← ob_of]; exact hb))), fun l hl => (h.own l hl).keeps hk (fun b hb => hn b (.inr ⟨l, hl, hb⟩)), h.dis⟩
theorem ListsAt.apart (h : ListsAt w B a c L) (hl : OwnL w B l) : ∀ b, ob l.a = some b → ob a ≠ some b := own_apart hl h.row (by decide)
theorem ListsAt.empty_ (w : World) (B : Nat) : ListsAt w B none 0 [] := ⟨World.ownsRow_nil _ _ _ _, fun _ h => by simp at h, List.Pairwise.nil⟩
/-- One more list. -/
theorem ListsAt.more (h : ListsAt w B a c L) (hb : Below w.heap.size w w1) (ho : w2.ownsRow B TL 1 (.slice a' (L.length + 1) c') (L.length + 1) (L.map hdr ++ [hdr l])) (hg : w1.grownBy w2 (Value.slice a 0 0).ownBlock) (hl : OwnL w B l) (hd : ∀ b, ob l.a = some b → ¬ listsF a L b) : ListsAt w2 B a' c' (L ++ [l]) := by
  have mv : ∀ m, OwnL w B m → OwnL w2 B m := fun m hm => (hm.old hb).keeps (S := fun b => ob a = some b) ((Keeps.refl _ w1).grown hg (fun k e _ => e)) (fun b h1 h2 => h.apart hm b h1 h2)
  refine ⟨by simpa using ho, fun m hm => ?_, ?_⟩
  · rcases List.mem_append.1 hm with hm | hm
    · exact mv m (h.own m hm)
    · simp at hm; subst hm; exact mv _ hl
  · refine List.pairwise_append.2 ⟨h.dis, by simp, fun m hm x hx b h1 h2 => ?_⟩
    simp at hx
    subst hx
    exact hd b h2 (.inr ⟨m, hm, h1⟩)
end
structure BookAt (w : World) (B k : Nat) (aI : Option Addr) (cI : Nat) (aW : Option Addr) (cW : Nat) (L M : List Ls) : Prop where
  blk : Blk w k TB (bcells (.slice aI L.length cI) (.slice aW M.length cW))
  i : ListsAt w B aI cI L
  s : ListsAt w B aW cW M
  ge : B ≤ k
  ap : Apart (listsF aI L) (listsF aW M)
def bookF (k : Nat) (aI aW : Option Addr) (L M : List Ls) : Nat → Prop := fun b => b = k ∨ listsF aI L b ∨ listsF aW M b
section
variable {w w' w1 w2 : World} {B k cI cW : Nat} {aI aW : Option Addr} {L M : List Ls} {l : Ls}
theorem BookAt.lt (h : BookAt w B k aI cI aW cW L M) : ∀ b, bookF k aI aW L M b → b < w.heap.size := by
  intro b hb
  rcases hb with rfl | hb | hb
  · exact h.blk.lt
  · exact (h.i.lt b hb).2
  · exact (h.s.lt b hb).2
theorem BookAt.geF (h : BookAt w B k aI cI aW cW L M) : ∀ b, bookF k aI aW L M b → B ≤ b := by
  intro b hb
  rcases hb with rfl | hb | hb
  · exact h.ge
  · exact (h.i.lt b hb).1
  · exact (h.s.lt b hb).1
theorem BookAt.base (h : BookAt w B k aI cI aW cW L M) : B ≤ w.heap.size := by have := h.ge; have := h.blk.lt; omega
theorem BookAt.keeps {S : Nat → Prop} (h : BookAt w B k aI cI aW cW L M) (hk : Keeps S w w') (hn : Apart (bookF k aI aW L M) S) : BookAt w' B k aI cI aW cW L M :=
  ⟨h.blk.keeps hk (hn k (.inl rfl)), h.i.keeps hk (fun b hb => hn b (.inr (.inl hb))), h.s.keeps hk (fun b hb => hn b (.inr (.inr hb))), h.ge, h.ap⟩
theorem BookAt.old (h : BookAt w B k aI cI aW cW L M) (hb : Below w.heap.size w w') : BookAt w' B k aI cI aW cW L M := h.keeps (Keeps.of_below hb (fun _ => False)) (fun _ _ h => h)
theorem row_k {n c : Nat} {a : Option Addr} {e : TypeId} {xs : List Value} {cs : Array Value} (h : w.ownsRow B e 1 (.slice a n c) n xs) (hb : Blk w k TB cs) (hne : e ≠ TB) : ob a ≠ some k := by
  have := own_ne h hb hne
  rwa [ob_of] at this
/-- One more list in the first row. -/
theorem BookAt.moreI {a' : Option Addr} {c' : Nat} (h : BookAt w B k aI cI aW cW L M) (hb : Below w.heap.size w w1) (ho : w2.ownsRow B TL 1 (.slice a' (L.length + 1) c') (L.length + 1) (L.map hdr ++ [hdr l])) (hg : w1.grownBy w2 (Value.slice aI 0 0).ownBlock) (hat : (Value.slice a' 0 0).ownBlock = (Value.slice aI 0 0).ownBlock ∨ (Value.slice a' 0 0).ownBlock = some w1.heap.size) (hl : OwnL w B l) (hd : ∀ b, ob l.a = some b → ¬ bookF k aI aW L M b) :
    BookAt (w2.setCell ⟨k, 2, none⟩ (.slice a' (L.length + 1) c')) B k a' c' aW cW (L ++ [l]) M ∧ Keeps (bookF k aI aW L M) w (w2.setCell ⟨k, 2, none⟩ (.slice a' (L.length + 1) c')) ∧ (∀ b, bookF k a' aW (L ++ [l]) M b → bookF k aI aW L M b ∨ ob l.a = some b ∨ w.heap.size ≤ b) := by
  have hki : ob aI ≠ some k := row_k h.i.row h.blk (by decide)
  have hks : ob aW ≠ some k := row_k h.s.row h.blk (by decide)
  have hlt := h.blk.lt
  have hs := hb.size
  have kg : Keeps (fun b => ob aI = some b) w1 w2 := (Keeps.refl _ w1).grown hg (fun k e _ => e)
  have hblk : Blk w2 k TB (bcells (.slice aI L.length cI) (.slice aW M.length cW)) := (h.blk.below hb hlt).keeps kg hki
  have hi2 := h.i.more hb ho hg hl (fun b h1 h2 => hd b h1 (.inr (.inl h2)))
  have hka : ∀ b, listsF a' (L ++ [l]) b → ¬ b = k := by
    intro b hb' e
    subst e
    rcases hb' with hb' | ⟨m, hm, hb'⟩
    · exact row_k hi2.row hblk (by decide) hb'
    · exact row_k (hi2.own m hm) hblk (by decide) hb'
  have kc : Keeps (fun b => b = k) w2 (w2.setCell ⟨k, 2, none⟩ (.slice a' (L.length + 1) c')) := Keeps.setCell (S := fun b => b = k) (p := ⟨k, 2, none⟩) (Keeps.refl _ _) (fun _ => rfl) _
  have gr : ∀ b, listsF a' (L ++ [l]) b → listsF aI L b ∨ ob l.a = some b ∨ w.heap.size ≤ b := by
    intro b hb'
    rcases hb' with hb' | ⟨m, hm, hb'⟩
    · rcases hat with e | e
      · exact .inl (.inl (by rw [← hb']; exact e.symm))
      · right; right
        have : some b = some w1.heap.size := by rw [← hb']; exact e
        injection this with this
        omega
    · rcases List.mem_append.1 hm with hm | hm
      · exact .inl (.inr ⟨m, hm, hb'⟩)
      · simp at hm; subst hm; exact .inr (.inl hb')
  refine ⟨⟨?_, hi2.keeps kc hka, ?_, h.ge, ?_⟩, ?_, ?_⟩
  · have := hblk.set_ 2 (.slice a' (L.length + 1) c')
    simpa using this
  · refine ((h.s.keeps (Keeps.of_below hb (fun _ => False)) (fun _ _ h => h)).keeps kg (fun b h1 h2 => h.ap b (.inl h2) h1)).keeps kc (fun b h1 e => ?_)
    subst e
    rcases h1 with h1 | ⟨m, hm, h1⟩
    · exact hks h1
    · exact row_k (h.s.own m hm) h.blk (by decide) h1
  · intro b h1 h2
    rcases gr b h1 with h3 | h3 | h3
    · exact h.ap b h3 h2
    · exact hd b h3 (.inr (.inr h2))
    · have := (h.s.lt b h2).2; omega
  · exact (((Keeps.of_below hb (bookF k aI aW L M)).trans (kg.mono (S' := bookF k aI aW L M) fun b _ hb' => .inr (.inl (.inl hb'))) (fun _ _ h => h)).trans (kc.mono (S' := bookF k aI aW L M) fun b _ hb' => .inl hb') (fun _ _ h => h))
  · intro b hb'
    rcases hb' with e | h1 | h1
    · exact .inl (.inl e)
    · rcases gr b h1 with h3 | h3 | h3
      · exact .inl (.inr (.inl h3))
      · exact .inr (.inl h3)
      · exact .inr (.inr h3)
    · exact .inl (.inr (.inr h1))
/-- One more list in the second row. -/
theorem BookAt.moreW {a' : Option Addr} {c' : Nat} (h : BookAt w B k aI cI aW cW L M) (hb : Below w.heap.size w w1) (ho : w2.ownsRow B TL 1 (.slice a' (M.length + 1) c') (M.length + 1) (M.map hdr ++ [hdr l])) (hg : w1.grownBy w2 (Value.slice aW 0 0).ownBlock) (hat : (Value.slice a' 0 0).ownBlock = (Value.slice aW 0 0).ownBlock ∨ (Value.slice a' 0 0).ownBlock = some w1.heap.size) (hl : OwnL w1 B l) (hd : ∀ b, ob l.a = some b → w.heap.size ≤ b) :
    BookAt (w2.setCell ⟨k, 3, none⟩ (.slice a' (M.length + 1) c')) B k aI cI a' c' L (M ++ [l]) ∧ Keeps (bookF k aI aW L M) w (w2.setCell ⟨k, 3, none⟩ (.slice a' (M.length + 1) c')) ∧ Grows w (bookF k aI aW L M) (bookF k aI a' L (M ++ [l])) := by
  have hs := hb.size
  have hlt := h.blk.lt
  have h1 := h.old hb
  have hki : ob aI ≠ some k := row_k h.i.row h.blk (by decide)
  have hks : ob aW ≠ some k := row_k h.s.row h.blk (by decide)
  have kg : Keeps (fun b => ob aW = some b) w1 w2 := (Keeps.refl _ w1).grown hg (fun k e _ => e)
  have hblk : Blk w2 k TB (bcells (.slice aI L.length cI) (.slice aW M.length cW)) := h1.blk.keeps kg hks
  have hi2 := h1.s.more (belowSame _) ho hg hl (fun b h2 h3 => by have h4 := hd b h2; have h5 := (h.s.lt b h3).2; omega)
  have hka : ∀ b, listsF a' (M ++ [l]) b → ¬ b = k := by
    intro b hb' e
    subst e
    rcases hb' with hb' | ⟨m, hm, hb'⟩
    · exact row_k hi2.row hblk (by decide) hb'
    · exact row_k (hi2.own m hm) hblk (by decide) hb'
  have kc : Keeps (fun b => b = k) w2 (w2.setCell ⟨k, 3, none⟩ (.slice a' (M.length + 1) c')) := Keeps.setCell (S := fun b => b = k) (p := ⟨k, 3, none⟩) (Keeps.refl _ _) (fun _ => rfl) _
  have gr : ∀ b, listsF a' (M ++ [l]) b → listsF aW M b ∨ w.heap.size ≤ b := by
    intro b hb'
    rcases hb' with hb' | ⟨m, hm, hb'⟩
    · rcases hat with e | e
      · exact .inl (.inl (by rw [← hb']; exact e.symm))
      · right
        have : some b = some w1.heap.size := by rw [← hb']; exact e
        injection this with this
        omega
    · rcases List.mem_append.1 hm with hm | hm
      · exact .inl (.inr ⟨m, hm, hb'⟩)
      · simp at hm; subst hm; exact .inr (hd b hb')
  refine ⟨⟨?_, ?_, hi2.keeps kc hka, h.ge, ?_⟩, ?_, ?_⟩
  · have := hblk.set_ 3 (.slice a' (M.length + 1) c')
    simpa using this
  · refine (h1.i.keeps kg (fun b h2 h3 => h.ap b h2 (.inl h3))).keeps kc (fun b h2 e => ?_)
    subst e
    rcases h2 with h2 | ⟨m, hm, h2⟩
    · exact hki h2
    · exact row_k (h.i.own m hm) h.blk (by decide) h2
  · intro b h2 h3
    rcases gr b h3 with h4 | h4
    · exact h.ap b h2 h4
    · have := (h.i.lt b h2).2; omega
  · exact (((Keeps.of_below hb (bookF k aI aW L M)).trans (kg.mono (S' := bookF k aI aW L M) fun b _ hb' => .inr (.inr (.inl hb'))) (fun _ _ h => h)).trans (kc.mono (S' := bookF k aI aW L M) fun b _ hb' => .inl hb') (fun _ _ h => h))
  · intro b hb'
    rcases hb' with e | h2 | h2
    · exact .inl (.inl e)
    · exact .inl (.inr (.inl h2))
    · rcases gr b h2 with h3 | h3
      · exact .inl (.inr (.inr h3))
      · exact .inr h3
end
end Go.Proofs.YthnlfgogibjbnaaGreat.RB
