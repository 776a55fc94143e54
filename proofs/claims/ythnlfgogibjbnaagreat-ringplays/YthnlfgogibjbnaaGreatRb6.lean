/- commonsbook.Book: putInts. No condition. -/
import Derived.Test.YthnlfgogibjbnaaGreatRb5
namespace Go.Proofs.YthnlfgogibjbnaaGreat.RB
set_option maxRecDepth 100000
set_option maxRecDepth 100000
open Go.RowKit Go.Proofs.YthnlfgogibjbnaaGreat.Bk
set_option linter.unusedVariables false
set_option linter.unusedSimpArgs false

section
variable {w w' : World} {B c : Nat} {a : Option Addr} {L : List Ls} {l : Ls}
theorem ListsAt.sep (h : ListsAt w B a c L) {p q : Nat} {x y : Ls} (hp : L[p]? = some x) (hq : L[q]? = some y) (hne : p ≠ q) : ∀ b, ob x.a = some b → ob y.a ≠ some b := by
  have hd := List.pairwise_iff_getElem.1 h.dis
  obtain ⟨p1, e1⟩ := List.getElem?_eq_some_iff.1 hp
  obtain ⟨q1, e2⟩ := List.getElem?_eq_some_iff.1 hq
  intro b h1 h2
  rcases Nat.lt_or_gt_of_ne hne with hlt | hlt
  · exact hd p q p1 q1 hlt b (by rw [e1]; exact h1) (by rw [e2]; exact h2)
  · exact hd q p q1 p1 hlt b (by rw [e2]; exact h2) (by rw [e1]; exact h1)
/-- A cell of a list is laid anew. -/
theorem ListsAt.write (h : ListsAt w B a c L) {i j : Nat} (hi : L[i]? = some l) (hj : j < l.xs.length) (z : Int) : ∃ b u, l.a = some ⟨b, 0, none⟩ ∧ w.cell? ⟨b, j, none⟩ = some u ∧ w.frozen? ⟨b, j, none⟩ = false ∧ ListsAt (w.setCell ⟨b, j, none⟩ (.int .i64 z)) B a c (L.set i ⟨l.a, l.c, l.xs.set j z⟩) := by
  have ho := h.own l (List.mem_of_getElem? hi)
  have hil := get_lt hi
  obtain ⟨b, hb⟩ := own_place ho (by omega)
  have hob : ob l.a = some b := by rw [hb]; rfl
  have ho2 := ho
  unfold OwnL at ho2
  rw [hb] at ho2
  have hc := ho2.cells (g := b) rfl j (val l.xs[j]) (by simp [List.getElem?_eq_getElem hj])
  rw [Go.WideShapes.add_plain, Nat.zero_add] at hc
  have hf : w.frozen? ⟨b, j, none⟩ = false := by
    rcases ho2.2 with ⟨h0, _⟩ | ⟨g', cap', cur, h0, _, hh, _⟩
    · injection h0 with h1 _ _; cases h1
    · injection h0 with h1 _ _
      injection h1 with h1
      injection h1 with h1 _
      subst h1
      simp [World.frozen?, hh]
  have kc : Keeps (fun k => k = b) w (w.setCell ⟨b, j, none⟩ (.int .i64 z)) := Keeps.setCell (S := fun k => k = b) (p := ⟨b, j, none⟩) (Keeps.refl _ _) (fun _ => rfl) _
  have hmap : (L.set i ⟨l.a, l.c, l.xs.set j z⟩).map hdr = L.map hdr := by
    rw [List.map_set]
    refine List.ext_getElem? fun q => ?_
    rw [List.getElem?_set]
    split
    · rename_i e
      subst e
      obtain ⟨_, e2⟩ := List.getElem?_eq_some_iff.1 hi
      simp [hil, hdr, e2]
    · rfl
  refine ⟨b, _, hb, hc, hf, ⟨?_, fun m hm => ?_, ?_⟩⟩
  · rw [hmap]
    simp only [List.length_set]
    exact own_keeps h.row kc (fun k hk e => h.apart ho b hob (by rw [← ob_of]; rw [hk, e]))
  · obtain ⟨q, hq⟩ := List.getElem?_of_mem hm
    rw [List.getElem?_set] at hq
    split at hq
    · injection hq with hq
      subst hq
      have hs := (ho2.stored j (.int .i64 z)).1
      unfold OwnL
      simp only [List.length_set, List.map_set, hb]
      exact hs
    · rename_i hne
      exact (h.own m (List.mem_of_getElem? hq)).keeps kc (fun k hk e => h.sep hi hq hne b hob (by rw [hk, e]))
  · have h1 : (L.map (fun x : Ls => x.a)).Pairwise (fun x y => ∀ b, ob x = some b → ob y ≠ some b) := List.pairwise_map.2 h.dis
    have h2 : (L.set i ⟨l.a, l.c, l.xs.set j z⟩).map (fun x : Ls => x.a) = L.map (fun x : Ls => x.a) := by
      rw [List.map_set]
      refine List.ext_getElem? fun q => ?_
      rw [List.getElem?_set]
      split
      · rename_i e
        subst e
        obtain ⟨_, e2⟩ := List.getElem?_eq_some_iff.1 hi
        simp [hil, e2]
      · rfl
    exact List.pairwise_map.1 (h2 ▸ h1)
end
/-- The first i lists hold their marks, and the list i the first j of them. -/
def putL (i j : Nat) (L : List Ls) : List Ls := L.mapIdx fun q l => ⟨l.a, l.c, if q < i then marks q 0 l.xs.length else if q = i then marks i 0 j ++ l.xs.drop j else l.xs⟩
theorem putL_get (i j : Nat) (L : List Ls) (q : Nat) : (putL i j L)[q]? = (L[q]?).map fun l => ⟨l.a, l.c, if q < i then marks q 0 l.xs.length else if q = i then marks i 0 j ++ l.xs.drop j else l.xs⟩ := by simp [putL]
theorem putL_len (i j : Nat) (L : List Ls) : (putL i j L).length = L.length := by simp [putL]
theorem putL_zero (L : List Ls) : putL 0 0 L = L := by
  refine List.ext_getElem? fun q => ?_
  rw [putL_get]
  cases L[q]? with
  | none => rfl
  | some l => simp [marks]
theorem putL_next {i : Nat} {L : List Ls} {l : Ls} (hi : L[i]? = some l) : putL i l.xs.length L = putL (i + 1) 0 L := by
  refine List.ext_getElem? fun q => ?_
  rw [putL_get, putL_get]
  rcases Nat.lt_trichotomy q i with h | h | h
  · have h2 : q < i + 1 := by omega
    simp [h, h2]
  · subst h
    simp [hi]
  · have h2 : ¬ q < i + 1 := by omega
    have h3 : ¬ q < i := by omega
    have h4 : ¬ q = i := by omega
    by_cases h5 : q = i + 1
    · subst h5
      simp [h3, h4, marks]
    · simp [h2, h3, h4, h5]
theorem putL_at {i j : Nat} {L : List Ls} {l : Ls} (hi : L[i]? = some l) : (putL i j L)[i]? = some ⟨l.a, l.c, marks i 0 j ++ l.xs.drop j⟩ := by
  rw [putL_get, hi]
  simp
theorem putL_succ {i j : Nat} {L : List Ls} {l : Ls} (hi : L[i]? = some l) (hj : j < l.xs.length) : putL i (j + 1) L = (putL i j L).set i ⟨l.a, l.c, (marks i 0 j ++ l.xs.drop j).set j (mark i j)⟩ := by
  have hil := get_lt hi
  refine List.ext_getElem? fun q => ?_
  rw [List.getElem?_set, putL_get, putL_get]
  by_cases e : i = q
  · subst e
    simp only [putL_len, hil, if_true, hi, Option.map_some, Nat.lt_irrefl, if_false]
    congr 2
    rw [List.set_append_right _ _ (by simp [marks_len]), marks_len, Nat.sub_self, marks_succ, List.append_assoc, Nat.zero_add]
    congr 1
    rw [List.drop_eq_getElem_cons hj]
    rfl
  · have h1 : ¬ q = i := fun h => e h.symm
    simp [h1, e]
def doneL (L : List Ls) : List Ls := L.mapIdx fun q l => ⟨l.a, l.c, marks q 0 l.xs.length⟩
theorem doneL_get (L : List Ls) (q : Nat) : (doneL L)[q]? = (L[q]?).map fun l => ⟨l.a, l.c, marks q 0 l.xs.length⟩ := by simp [doneL]
theorem doneL_len (L : List Ls) : (doneL L).length = L.length := by simp [doneL]
theorem putL_done (L : List Ls) : putL L.length 0 L = doneL L := by
  refine List.ext_getElem? fun q => ?_
  rw [putL_get, doneL_get]
  cases h : L[q]? with
  | none => rfl
  | some l => simp [get_lt h]
/-- A book of which only the lists of integers are looked at. -/
structure BookI (w : World) (B k : Nat) (aI : Option Addr) (cI : Nat) (V : Value) (L : List Ls) : Prop where
  blk : Blk w k TB (bcells (.slice aI L.length cI) V)
  i : ListsAt w B aI cI L
  ge : B ≤ k
theorem BookAt.bookI {w : World} {B k cI cW : Nat} {aI aW : Option Addr} {L M : List Ls} (h : BookAt w B k aI cI aW cW L M) : BookI w B k aI cI (.slice aW M.length cW) L := ⟨h.blk, h.i, h.ge⟩
section
variable {w w' : World} {B k cI : Nat} {aI : Option Addr} {V : Value} {L : List Ls} {l : Ls}
theorem BookI.keeps {S : Nat → Prop} (h : BookI w B k aI cI V L) (hk : Keeps S w w') (hn : Apart (fun b => b = k ∨ listsF aI L b) S) : BookI w' B k aI cI V L :=
  ⟨h.blk.keeps hk (hn k (.inl rfl)), h.i.keeps hk (fun b hb => hn b (.inr hb)), h.ge⟩
theorem BookI.old (h : BookI w B k aI cI V L) (hb : Below w.heap.size w w') : BookI w' B k aI cI V L := h.keeps (Keeps.of_below hb (fun _ => False)) (fun _ _ h => h)
theorem BookI.write (h : BookI w B k aI cI V L) {i j : Nat} (hi : L[i]? = some l) (hj : j < l.xs.length) (z : Int) : ∃ b u, l.a = some ⟨b, 0, none⟩ ∧ w.cell? ⟨b, j, none⟩ = some u ∧ w.frozen? ⟨b, j, none⟩ = false ∧ BookI (w.setCell ⟨b, j, none⟩ (.int .i64 z)) B k aI cI V (L.set i ⟨l.a, l.c, l.xs.set j z⟩) := by
  obtain ⟨b, u, h1, h2, h3, h4⟩ := h.i.write hi hj z
  refine ⟨b, u, h1, h2, h3, ⟨?_, h4, h.ge⟩⟩
  have hne : ob l.a ≠ some k := row_k (h.i.own l (List.mem_of_getElem? hi)) h.blk (by decide)
  have := h.blk.far (p := ⟨b, j, none⟩) (fun e => hne (by rw [h1]; simp [ob, Value.ownBlock, e])) (.int .i64 z)
  simpa using this
end
end Go.Proofs.YthnlfgogibjbnaaGreat.RB
