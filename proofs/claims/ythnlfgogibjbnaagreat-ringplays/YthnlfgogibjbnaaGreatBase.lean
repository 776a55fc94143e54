/- Words of our own for memory, over any program: what a call may change ('Keeps'), how a footprint may grow ('Grows'), a block known whole ('Blk'), a slice that reads as a list ('Lies'). No condition. -/
import Derived.WalkKit
import Derived.Deep.AppendLies
import Derived.Deep.Draws
import Derived.Lib.Hide
namespace Go.Proofs.YthnlfgogibjbnaaGreat
set_option maxRecDepth 100000
open Go.RowKit
set_option linter.unusedVariables false

/-- w' is w but for the blocks of S and for new blocks. -/
structure Keeps (S : Nat → Prop) (w w' : World) : Prop where
  os : w'.os = w.os
  tape : w'.tape = w.tape
  output : w'.output = w.output
  size : w.heap.size ≤ w'.heap.size
  block : ∀ k, k < w.heap.size → ¬ S k → w'.heap[k]? = w.heap[k]?

/-- A footprint grows by new blocks alone. -/
def Grows (w : World) (F F' : Nat → Prop) : Prop := ∀ k, F' k → F k ∨ w.heap.size ≤ k

def Apart (F G : Nat → Prop) : Prop := ∀ k, F k → G k → False

theorem Grows.refl (w : World) (F : Nat → Prop) : Grows w F F := fun _ h => .inl h
theorem Grows.trans {a b : World} {F G H : Nat → Prop} (h : Grows a F G) (hs : a.heap.size ≤ b.heap.size) (k : Grows b G H) : Grows a F H := fun i hi => by
  rcases k i hi with h1 | h1
  · exact h i h1
  · exact .inr (Nat.le_trans hs h1)
theorem Grows.apart {w : World} {F F' G : Nat → Prop} (h : Grows w F F') (ha : Apart F G) (hl : ∀ k, G k → k < w.heap.size) : Apart F' G := fun k h1 h2 => by
  rcases h k h1 with h3 | h3
  · exact ha k h3 h2
  · exact absurd (hl k h2) (by omega)
theorem Grows.ge {w : World} {F F' : Nat → Prop} {B : Nat} (h : Grows w F F') (hB : B ≤ w.heap.size) (hF : ∀ k, F k → B ≤ k) : ∀ k, F' k → B ≤ k := fun k hk => by
  rcases h k hk with h1 | h1
  · exact hF k h1
  · omega
theorem Apart.symm {F G : Nat → Prop} (h : Apart F G) : Apart G F := fun k a b => h k b a

section
variable {S S' : Nat → Prop} {a b c w w' : World}

theorem Keeps.refl (S : Nat → Prop) (w : World) : Keeps S w w := ⟨rfl, rfl, rfl, Nat.le_refl _, fun _ _ _ => rfl⟩
theorem Keeps.mono (h : Keeps S w w') (hs : ∀ k, k < w.heap.size → S k → S' k) : Keeps S' w w' := ⟨h.os, h.tape, h.output, h.size, fun k hk hn => h.block k hk fun hk' => hn (hs k hk hk')⟩
theorem Keeps.trans (h : Keeps S a b) (k : Keeps S' b c) (hs : ∀ i, i < a.heap.size → S' i → S i) : Keeps S a c :=
  ⟨k.os.trans h.os, k.tape.trans h.tape, k.output.trans h.output, Nat.le_trans h.size k.size, fun i hi hn =>
    (k.block i (Nat.lt_of_lt_of_le hi h.size) (fun hk => hn (hs i hi hk))).trans (h.block i hi hn)⟩
theorem Keeps.then_ (h : Keeps S a b) (hg : Grows a S S') (k : Keeps S' b c) : Keeps S a c :=
  h.trans k fun i hi hs => by
    rcases hg i hs with h1 | h1
    · exact h1
    · omega
theorem Keeps.drew (h : Keeps S a w) : Keeps S a w.drew := ⟨h.os, h.tape, h.output, h.size, h.block⟩
theorem Keeps.drewN (h : Keeps S a w) (n : Nat) : Keeps S a (w.drewN n) := ⟨h.os, h.tape, h.output, h.size, h.block⟩
theorem Keeps.alloc (h : Keeps S a w) (o : Obj) : Keeps S a (w.alloc o) :=
  ⟨h.os, h.tape, h.output, Nat.le_trans h.size (by simp), fun i hi hne => (Below.heap_alloc w o i (Nat.lt_of_lt_of_le hi h.size)).trans (h.block i hi hne)⟩
theorem Keeps.setCell (h : Keeps S a w) {p : Addr} (hp : p.block < a.heap.size → S p.block) (u : Value) : Keeps S a (w.setCell p u) :=
  ⟨h.os, h.tape, h.output, by simpa [World.setCell] using h.size, fun i hi hne => (Below.heap_setCell w p u i (by
    rintro rfl
    exact hne (hp hi))).trans (h.block i hi hne)⟩
theorem Keeps.grown (h : Keeps S a w) {row : Option Nat} (hg : w.grownBy w' row) (hr : ∀ k, row = some k → k < a.heap.size → S k) : Keeps S a w' :=
  ⟨hg.os.trans h.os, hg.tape.trans h.tape, hg.output.trans h.output, Nat.le_trans h.size hg.size, fun k hk hn =>
    (hg.block k (Nat.lt_of_lt_of_le hk h.size) (fun e => hn (hr k e.symm hk))).trans (h.block k hk hn)⟩
theorem Keeps.of_below (h : Below w.heap.size w w') (S : Nat → Prop) : Keeps S w w' := ⟨h.os, h.tape, h.output, h.size, fun k hk _ => h.block k hk⟩
theorem Keeps.below {B : Nat} (h : Keeps S w w') (hS : ∀ k, S k → B ≤ k) (hB : B ≤ w.heap.size) : Below B w w' :=
  ⟨h.os, h.tape, h.output, h.size, fun k hk => h.block k (by omega) fun hs => by have := hS k hs; omega⟩
theorem Keeps.belowW (h : Keeps (fun _ => False) w w') : Below w.heap.size w w' := h.below (fun _ => False.elim) (Nat.le_refl _)
theorem Keeps.cell (h : Keeps S w w') {p : Addr} (hp : p.block < w.heap.size) (hn : ¬ S p.block) : w'.cell? p = w.cell? p := World.cell?_of_block (h.block p.block hp hn)
theorem Keeps.frozen (h : Keeps S w w') {p : Addr} (hp : p.block < w.heap.size) (hn : ¬ S p.block) : w'.frozen? p = w.frozen? p := World.frozen?_of_block (h.block p.block hp hn)
theorem Keeps.after {B : Nat} (k : Keeps S b c) (h : Below B a b) (hS : ∀ i, S i → B ≤ i) (hB : B ≤ b.heap.size) : Below B a c := h.trans (k.below hS hB)
end

theorem belowDrewN {B : Nat} {a w : World} (h : Below B a w) (n : Nat) : Below B a (w.drewN n) := ⟨h.os, h.tape, h.output, h.size, h.block⟩
theorem belowAlloc {B : Nat} {a w : World} (h : Below B a w) (hB : B ≤ w.heap.size) (o : Obj) : Below B a (w.alloc o) := h.alloc hB o

/-! ### A block known whole -/
def Blk (w : World) (g : Nat) (t : TypeId) (cs : Array Value) : Prop := w.heap[g]? = some (.cells cs t (0, 0))
section
variable {w w' : World} {g : Nat} {t : TypeId} {cs : Array Value}
theorem Blk.lt (h : Blk w g t cs) : g < w.heap.size := by
  rcases Nat.lt_or_ge g w.heap.size with hlt | hge
  · exact hlt
  · unfold Blk at h; rw [Array.getElem?_eq_none hge] at h; cases h
theorem Blk.cell (h : Blk w g t cs) (i : Nat) : w.cell? ⟨g, i, none⟩ = cs[i]? := cell_of_row w g i cs t (0, 0) h
theorem Blk.frozen (h : Blk w g t cs) (i : Nat) : w.frozen? ⟨g, i, none⟩ = false := by
  unfold Blk at h
  simp [World.frozen?, h]
theorem Blk.new (w : World) (t : TypeId) (cs : Array Value) : Blk (w.alloc (.cells cs t)) w.heap.size t cs := heap_alloc_new w _
theorem Blk.drew (h : Blk w g t cs) : Blk w.drew g t cs := h
theorem Blk.drewN (h : Blk w g t cs) (n : Nat) : Blk (w.drewN n) g t cs := h
theorem Blk.alloc (h : Blk w g t cs) (o : Obj) : Blk (w.alloc o) g t cs := (Below.heap_alloc w o g h.lt).trans h
theorem Blk.set_ (h : Blk w g t cs) (i : Nat) (u : Value) : Blk (w.setCell ⟨g, i, none⟩ u) g t (cs.setIfInBounds i u) := by
  unfold Blk at h ⊢
  simp [World.setCell, Array.getElem?_modify, h]
theorem Blk.far (h : Blk w g t cs) {p : Addr} (hp : g ≠ p.block) (u : Value) : Blk (w.setCell p u) g t cs := (Below.heap_setCell w p u g hp).trans h
theorem Blk.keeps {S : Nat → Prop} (h : Blk w g t cs) (hk : Keeps S w w') (hn : ¬ S g) : Blk w' g t cs := (hk.block g h.lt hn).trans h
theorem Blk.below {B : Nat} (h : Blk w g t cs) (hb : Below B w w') (hg : g < B) : Blk w' g t cs := (hb.block g hg).trans h
theorem Blk.grown {row : Option Nat} (h : Blk w g t cs) (hb : w.grownBy w' row) (hg : some g ≠ row) : Blk w' g t cs := (hb.block g h.lt hg).trans h
theorem Blk.ne_ {g' : Nat} {t' : TypeId} {cs' : Array Value} (h : Blk w g t cs) (h' : Blk w g' t' cs') (hne : t ≠ t') : g ≠ g' := by
  rintro rfl
  unfold Blk at h h'
  rw [h] at h'
  injection h' with h'
  injection h' with _ ht
  exact hne ht
end

/-! ### Rows that are owned -/
theorem own_ne {w : World} {base g : Nat} {e t : TypeId} {size n : Nat} {v : Value} {xs : List Value} {cs : Array Value} (h : w.ownsRow base e size v n xs) (hg : Blk w g t cs) (hne : e ≠ t) : v.ownBlock ≠ some g := by
  rcases h.2 with ⟨rfl, _⟩ | ⟨g', cap, cur, rfl, _, hh, _⟩
  · simp [Value.ownBlock]
  · intro he
    have : g' = g := by simpa [Value.ownBlock] using he
    subst this
    exact Blk.ne_ (t := e) hh hg hne rfl
theorem own_keeps {w w' : World} {S : Nat → Prop} {base : Nat} {e : TypeId} {size n : Nat} {v : Value} {xs : List Value} (h : w.ownsRow base e size v n xs) (hk : Keeps S w w') (hn : ∀ k, v.ownBlock = some k → ¬ S k) : w'.ownsRow base e size v n xs := by
  refine ⟨h.1, ?_⟩
  rcases h.2 with h0 | ⟨g, cap, cur, rfl, hb, hg, rest⟩
  · exact .inl h0
  · refine .inr ⟨g, cap, cur, rfl, hb, ?_, rest⟩
    rw [hk.block g (Array.getElem?_eq_some_iff.1 hg).1 (hn g rfl)]
    exact hg
theorem own_base {w : World} {base base' : Nat} {e : TypeId} {size n : Nat} {v : Value} {xs : List Value} (h : w.ownsRow base e size v n xs) (hb : ∀ k, v.ownBlock = some k → base' ≤ k) : w.ownsRow base' e size v n xs := by
  refine ⟨h.1, ?_⟩
  rcases h.2 with h0 | ⟨g, cap, cur, rfl, _, hg, rest⟩
  · exact .inl h0
  · exact .inr ⟨g, cap, cur, rfl, hb g rfl, hg, rest⟩

/-! ### A slice that reads as a list -/
theorem block_add (a : Addr) (n : Nat) : (a.add n).block = a.block := by unfold Addr.add; split <;> rfl
theorem add_add_ (a : Addr) (i j : Nat) : (a.add i).add j = a.add (i + j) := by
  unfold Addr.add
  by_cases hi : i = 0 <;> by_cases hj : j = 0 <;> simp [hi, hj, Nat.add_assoc]

def Lies (w : World) (size : Nat) (A : Option Addr) (n : Nat) (xs : List Value) : Prop :=
  xs.length = n * size ∧ (0 < n → ∃ ad, A = some ad ∧ ∀ j u, xs[j]? = some u → w.cell? (ad.add j) = some u)
section
variable {w w' : World} {size n : Nat} {A : Option Addr} {xs : List Value}
theorem Lies.nil : Lies w size A 0 [] := ⟨by simp, fun h => absurd h (by omega)⟩
theorem Lies.at_ {k : Nat} (h : Lies w 1 A n xs) (hk : k < n) : ∃ ad u, A = some ad ∧ xs[k]? = some u ∧ w.cell? (ad.add k) = some u := by
  obtain ⟨ad, e, hc⟩ := h.2 (by omega)
  have hl : k < xs.length := by have := h.1; omega
  exact ⟨ad, xs[k], e, List.getElem?_eq_getElem hl, hc k _ (List.getElem?_eq_getElem hl)⟩
theorem Lies.lt (h : Lies w size A n xs) (hs : 0 < size) (hn : 0 < n) : ∀ ad, A = some ad → ad.block < w.heap.size := by
  rintro ad rfl
  obtain ⟨ad', e, hc⟩ := h.2 hn
  cases e
  have hl : 0 < xs.length := by rw [h.1]; exact Nat.mul_pos hn hs
  have := World.block_lt_of_cell? w _ (hc 0 _ (List.getElem?_eq_getElem hl))
  rwa [block_add] at this
theorem Lies.of_cells (h : Lies w size A n xs) (hc : ∀ ad p, A = some ad → p.block = ad.block → w'.cell? p = w.cell? p) : Lies w' size A n xs :=
  ⟨h.1, fun hn => by
    obtain ⟨ad, e, hcell⟩ := h.2 hn
    exact ⟨ad, e, fun j u hu => (hc ad _ e (block_add _ _)).trans (hcell j u hu)⟩⟩
theorem Lies.drew (h : Lies w size A n xs) : Lies w.drew size A n xs := h
theorem Lies.drewN (h : Lies w size A n xs) (k : Nat) : Lies (w.drewN k) size A n xs := h
theorem Lies.keeps {S : Nat → Prop} (h : Lies w size A n xs) (hs : 0 < size) (hk : Keeps S w w') (hn : ∀ ad, A = some ad → ¬ S ad.block) : Lies w' size A n xs := by
  rcases Nat.eq_zero_or_pos n with rfl | hpos
  · exact ⟨h.1, fun h0 => absurd h0 (by omega)⟩
  · exact h.of_cells fun ad p e hp => hk.cell (by rw [hp]; exact h.lt hs hpos ad e) (by rw [hp]; exact hn ad e)
theorem Lies.below {B : Nat} (h : Lies w size A n xs) (hb : Below B w w') (hn : ∀ ad, A = some ad → ad.block < B) : Lies w' size A n xs :=
  h.of_cells fun ad p e hp => hb.cell (by rw [hp]; exact hn ad e)
theorem Lies.old (h : Lies w size A n xs) (hs : 0 < size) (hb : Below w.heap.size w w') : Lies w' size A n xs := by
  rcases Nat.eq_zero_or_pos n with rfl | hpos
  · exact ⟨h.1, fun h0 => absurd h0 (by omega)⟩
  · exact h.below hb (h.lt hs hpos)
theorem Lies.take (h : Lies w size A n xs) {k : Nat} (hk : k ≤ n) : Lies w size A k (xs.take (k * size)) := by
  refine ⟨by rw [List.length_take, h.1]; exact Nat.min_eq_left (Nat.mul_le_mul_right _ hk), fun hn => ?_⟩
  obtain ⟨ad, e, hc⟩ := h.2 (by omega)
  refine ⟨ad, e, fun j u hu => hc j u ?_⟩
  rw [List.getElem?_take] at hu
  split at hu
  · exact hu
  · cases hu
theorem Lies.cut {b k c : Nat} (h : Lies w 1 (some ⟨b, 0, none⟩) n xs) (hk : k ≤ n) (hc : n ≤ c) : Lies w 1 (if c = k then some ⟨b, 0, none⟩ else some ⟨b, k, none⟩) (n - k) (xs.drop k) := by
  refine ⟨by have := h.1; rw [List.length_drop]; omega, fun hn => ?_⟩
  rw [if_neg (by omega)]
  refine ⟨_, rfl, fun j u hu => ?_⟩
  obtain ⟨ad, e, hcell⟩ := h.2 (by omega)
  cases e
  rw [List.getElem?_drop] at hu
  rw [← hcell _ u hu]
  congr 1
  unfold Addr.add
  split <;> split <;> simp_all
theorem Lies.of_blk {b : Nat} {t : TypeId} {cs : Array Value} (h : Blk w b t cs) : Lies w 1 (some ⟨b, 0, none⟩) cs.size cs.toList :=
  ⟨by simp, fun _ => ⟨_, rfl, fun j u hu => by
    have e : (⟨b, 0, none⟩ : Addr).add j = ⟨b, j, none⟩ := by unfold Addr.add; split <;> simp_all
    rw [e, h.cell]; simpa using hu⟩⟩
theorem Lies.of_own {base : Nat} {e : TypeId} {c : Nat} (h : w.ownsRow base e size (.slice A n c) n xs) : Lies w size A n xs := by
  refine ⟨h.1, fun hn => ?_⟩
  obtain ⟨g, cap, hv, _, _⟩ := h.form hn
  have hA : A = some ⟨g, 0, none⟩ := by injection hv
  subst hA
  exact ⟨_, rfl, h.cells (g := g) rfl⟩
end

/-- A row that a call made lies in blocks that were not there. -/
theorem own_fresh {w : World} {B : Nat} {e : TypeId} {size n c : Nat} {a : Option Addr} {xs : List Value} (h : w.ownsRow B e size (.slice a n c) n xs) {F : Nat → Prop} (hF : ∀ k, F k → k < B) : ∀ k, (Value.slice a n c).ownBlock = some k → ¬ F k := by
  intro k hk hf
  have := (h.lt k hk).1
  have := hF k hf
  omega

/-! ### Whole numbers as the model lays them -/
theorem ret_int {k : IntKind} {a b : Int} (h : a = b) : Ending.returned (.int k a) = .returned (.int k b) := by rw [h]
theorem ret_bool {a b : Bool} (h : a = b) : Ending.returned (.bool a) = .returned (.bool b) := by rw [h]
end Go.Proofs.YthnlfgogibjbnaaGreat
