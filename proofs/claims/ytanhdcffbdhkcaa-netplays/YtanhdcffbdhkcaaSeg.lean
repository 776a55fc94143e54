/- A slice of the call's own that may begin in the middle of its row ('x = x[1:]', then 'append(x, ..)'). Over any program. No condition. -/
import Derived.Test.YtanhdcffbdhkcaaAppend
import Derived.ArgAppend
namespace Go.Proofs.Ytanhdcffbdhkcaa
set_option maxRecDepth 100000
open Go.RowKit
set_option linter.unusedVariables false

/-- The slice value '.slice a n c' holds the cells xs; its row lies in a block from B on. -/
def Seg (w : World) (B : Nat) (e : TypeId) (size : Nat) (a : Option Addr) (n c : Nat) (xs : List Value) : Prop :=
  xs.length = n * size ∧ n ≤ c ∧ c ≤ maxLen ∧
  ((a = none ∧ c = 0) ∨ ∃ g off cur, a = some ⟨g, off, none⟩ ∧ B ≤ g ∧ w.heap[g]? = some (.cells cur e (0, 0)) ∧ off + c * size ≤ cur.size ∧ ∀ j u, xs[j]? = some u → cur[off + j]? = some u)

def segF (a : Option Addr) : Nat → Prop := fun k => (Value.slice a 0 0).ownBlock = some k

theorem addr_add (g off j : Nat) : (⟨g, off, none⟩ : Addr).add j = ⟨g, off + j, none⟩ := by unfold Addr.add; split <;> simp_all

def writeAt : Array Value → Nat → List Value → Array Value
  | cur, _, [] => cur
  | cur, o, v :: r => writeAt (cur.setIfInBounds o v) (o + 1) r
theorem size_writeAt (cur : Array Value) (o : Nat) (vs : List Value) : (writeAt cur o vs).size = cur.size := by
  induction vs generalizing cur o with
  | nil => rfl
  | cons v r ih => simp [writeAt, ih]
theorem writeAt_out (cur : Array Value) (o : Nat) (vs : List Value) (i : Nat) (h : i < o ∨ o + vs.length ≤ i) : (writeAt cur o vs)[i]? = cur[i]? := by
  induction vs generalizing cur o with
  | nil => rfl
  | cons v r ih =>
    rw [writeAt, ih _ _ (by simp at h; omega), Array.getElem?_setIfInBounds]
    rw [if_neg (by simp at h; omega)]
theorem writeAt_in (cur : Array Value) (o : Nat) (vs : List Value) (j : Nat) (h : j < vs.length) (hb : o + vs.length ≤ cur.size) : (writeAt cur o vs)[o + j]? = some vs[j] := by
  induction vs generalizing cur o j with
  | nil => simp at h
  | cons v r ih =>
    cases j with
    | zero =>
      rw [writeAt, writeAt_out _ _ _ _ (by omega)]
      simp at hb
      simp [Array.getElem?_setIfInBounds]
      omega
    | succ j =>
      rw [writeAt, show o + (j + 1) = o + 1 + j by omega, ih _ _ j (by simpa using h) (by simp at hb; simp; omega)]
      simp
theorem heap_setCells (g : Nat) (e : TypeId) (vs : List Value) : ∀ (o : Nat) (cur : Array Value) (w : World), w.heap[g]? = some (.cells cur e (0, 0)) →
    (w.setCells g o vs).heap[g]? = some (.cells (writeAt cur o vs) e (0, 0)) := by
  induction vs with
  | nil => intro o cur w h; exact h
  | cons v r ih =>
    intro o cur w h
    rw [World.setCells, writeAt]
    refine ih _ _ _ ?_
    have h' : Blk w g e cur := h
    exact h'.set_ o v
theorem keeps_setCells {S : Nat → Prop} (g : Nat) (hg : S g) (vs : List Value) : ∀ (o : Nat) (w0 w : World), Keeps S w0 w → Keeps S w0 (w.setCells g o vs) := by
  induction vs with
  | nil => intro o w0 w h; exact h
  | cons v r ih =>
    intro o w0 w h
    rw [World.setCells]
    exact ih _ _ _ (h.setCell (fun _ => hg) v)

section
variable {w w' : World} {B : Nat} {e : TypeId} {size : Nat} {a : Option Addr} {n c : Nat} {xs : List Value}

theorem Seg.nil (w : World) (B : Nat) (e : TypeId) (size : Nat) : Seg w B e size none 0 0 [] := ⟨by simp, Nat.le_refl _, Nat.zero_le _, .inl ⟨rfl, rfl⟩⟩
theorem Seg.of_own (h : w.ownsRow B e size (.slice a n c) n xs) : Seg w B e size a n c xs := by
  refine ⟨h.1, ?_⟩
  rcases h.2 with ⟨h0, h1⟩ | ⟨g, cap, cur, h0, hb, hh, h1, h2, h3, h4⟩
  · injection h0 with ha hn hc
    subst ha; subst hc; subst h1
    exact ⟨Nat.le_refl _, Nat.zero_le _, .inl ⟨rfl, rfl⟩⟩
  · injection h0 with ha hn hc
    subst ha; subst hc
    refine ⟨h1, h2, .inr ⟨g, 0, cur, rfl, hb, hh, by rw [h3]; omega, fun j u hu => ?_⟩⟩
    rw [← h4, List.getElem?_take] at hu
    split at hu
    · simpa using hu
    · cases hu
theorem Seg.lies (h : Seg w B e size a n c xs) : Lies w size a n xs := by
  refine ⟨h.1, fun hn => ?_⟩
  rcases h.2.2.2 with ⟨rfl, h0⟩ | ⟨g, off, cur, rfl, _, hh, _, hc⟩
  · have := h.2.1; omega
  · refine ⟨_, rfl, fun j u hu => ?_⟩
    rw [addr_add, cell_of_row w g _ cur e (0, 0) hh]
    exact hc j u hu
theorem Seg.lt (h : Seg w B e size a n c xs) : ∀ k, segF a k → k < w.heap.size := by
  intro k hk
  rcases h.2.2.2 with ⟨rfl, _⟩ | ⟨g, off, cur, rfl, _, hh, _⟩
  · simp [segF, Value.ownBlock] at hk
  · simp [segF, Value.ownBlock] at hk
    subst hk
    exact (Array.getElem?_eq_some_iff.1 hh).1
theorem Seg.ge (h : Seg w B e size a n c xs) : ∀ k, segF a k → B ≤ k := by
  intro k hk
  rcases h.2.2.2 with ⟨rfl, _⟩ | ⟨g, off, cur, rfl, hb, _, _⟩
  · simp [segF, Value.ownBlock] at hk
  · simp [segF, Value.ownBlock] at hk
    subst hk
    exact hb
theorem Seg.keeps {S : Nat → Prop} (h : Seg w B e size a n c xs) (hk : Keeps S w w') (hn : ∀ k, segF a k → ¬ S k) : Seg w' B e size a n c xs := by
  refine ⟨h.1, h.2.1, h.2.2.1, ?_⟩
  rcases h.2.2.2 with h0 | ⟨g, off, cur, rfl, hb, hh, h1, h2⟩
  · exact .inl h0
  · exact .inr ⟨g, off, cur, rfl, hb, (hk.block g (Array.getElem?_eq_some_iff.1 hh).1 (hn g rfl)).trans hh, h1, h2⟩
theorem Seg.drewN (h : Seg w B e size a n c xs) (k : Nat) : Seg (w.drewN k) B e size a n c xs := h
theorem Seg.drew (h : Seg w B e size a n c xs) : Seg w.drew B e size a n c xs := h
theorem Seg.alloc (h : Seg w B e size a n c xs) (o : Obj) : Seg (w.alloc o) B e size a n c xs := h.keeps ((Keeps.refl (fun _ => False) w).alloc o) (fun _ _ h => h)
theorem Seg.below {Bk : Nat} (h : Seg w B e size a n c xs) (hb : Below Bk w w') (hn : ∀ k, segF a k → k < Bk) : Seg w' B e size a n c xs :=
  h.keeps (S := fun k => Bk ≤ k) ⟨hb.os, hb.tape, hb.output, hb.size, fun k _ hk => hb.block k (by omega)⟩ (fun k h1 h2 => by have := hn k h1; omega)
theorem Seg.base_ {B' : Nat} (h : Seg w B e size a n c xs) (hB : B' ≤ B) : Seg w B' e size a n c xs := by
  refine ⟨h.1, h.2.1, h.2.2.1, ?_⟩
  rcases h.2.2.2 with h0 | ⟨g, off, cur, ha, hb, rest⟩
  · exact .inl h0
  · exact .inr ⟨g, off, cur, ha, Nat.le_trans hB hb, rest⟩
/-- What '.slice a n c' [k:] is. -/
theorem Seg.cut {k : Nat} (h : Seg w B e size a n c xs) (hk : k ≤ n) : Seg w B e size (if c = k then a else a.map (·.add (k * size))) (n - k) (c - k) (xs.drop (k * size)) := by
  refine ⟨by rw [List.length_drop, h.1, Nat.sub_mul], by have := h.2.1; omega, by have := h.2.2.1; omega, ?_⟩
  rcases h.2.2.2 with ⟨rfl, h0⟩ | ⟨g, off, cur, rfl, hb, hh, h1, h2⟩
  · exact .inl ⟨by simp, by omega⟩
  · right
    by_cases hc : c = k
    · subst hc
      have hn : n = c := by have := h.2.1; omega
      subst hn
      refine ⟨g, off, cur, by simp, hb, hh, by rw [Nat.sub_self, Nat.zero_mul]; omega, fun j u hu => ?_⟩
      rw [List.drop_of_length_le (by rw [h.1]; exact Nat.le_refl _)] at hu
      simp at hu
    · rw [if_neg hc]
      refine ⟨g, off + k * size, cur, by simp [addr_add], hb, hh, ?_, fun j u hu => ?_⟩
      · have : (c - k) * size = c * size - k * size := Nat.sub_mul _ _ _
        have : k * size ≤ c * size := Nat.mul_le_mul_right _ (by have := h.2.1; omega)
        omega
      · rw [List.getElem?_drop] at hu
        rw [Nat.add_assoc]
        exact h2 _ u hu
theorem Seg.tail {g off : Nat} (h : Seg w B e 1 (some ⟨g, off, none⟩) n c xs) (hn : 1 ≤ n) : Seg w B e 1 (if c = 1 then some ⟨g, off, none⟩ else some ⟨g, off + 1, none⟩) (n - 1) (c - 1) xs.tail := by
  have := h.cut hn
  simp only [Option.map_some, addr_add, Nat.mul_one, List.drop_one] at this
  exact this
theorem segF_tail (g off c : Nat) : segF (if c = 1 then some ⟨g, off, none⟩ else some ⟨g, off + 1, none⟩) = segF (some ⟨g, off, none⟩) := by
  split <;> rfl
theorem Seg.form (h : Seg w B e size a n c xs) (hn : 0 < n) : ∃ g off, a = some ⟨g, off, none⟩ := by
  rcases h.2.2.2 with ⟨_, h0⟩ | ⟨g, off, cur, ha, _⟩
  · have := h.2.1; omega
  · exact ⟨g, off, ha⟩
theorem Seg.cell {g off : Nat} (h : Seg w B e 1 (some ⟨g, off, none⟩) n c xs) {k : Nat} {u : Value} (hu : xs[k]? = some u) : w.cell? ⟨g, off + k, none⟩ = some u := by
  rcases h.2.2.2 with ⟨h0, _⟩ | ⟨g', off', cur, ha, _, hh, _, hc⟩
  · cases h0
  · injection ha with ha
    injection ha with h1 h2
    subst h1; subst h2
    rw [cell_of_row w g _ cur e (0, 0) hh]
    exact hc k u hu
theorem segF_cut (a : Option Addr) (c k s : Nat) : segF (if c = k then a else a.map (·.add (k * s))) = segF a := by
  split
  · rfl
  · cases a with
    | none => rfl
    | some ad => funext j; simp [segF, Value.ownBlock, block_add]
end

section
variable {P : Program} (w : World)

theorem run_append_seg (base : Nat) (t ty e : TypeId) (i : TypeInfo) (z : Value) (size bytes : Nat) (ht : P.underlying t = some (.slice e)) (hi : P.info? e = some i) (hz : i.zero = some z)
    (hsize : i.size = size) (hby : i.bytes = bytes) (hzs : z.cells.size = size) (hsz : 0 < size)
    (a : Option Addr) (n cap : Nat) (xs : List Value) (hown : Seg w base e size a n cap xs)
    (A : Option Addr) (m c : Nat) (news : List Value) (hr : Lies w size A m news) (h1 : ∀ u ∈ news, u.oneCell' = true)
    (h63 : n + m ≤ maxLen) (hbytes : (n + m) * bytes ≤ 140737488355328) (hbase : base ≤ w.heap.size) :
    ∃ a' cap' w', (Builtin.append_ #[t, t] ty #[.slice a n cap, .slice A m c]).run P w = .ok (.slice a' (n + m) cap') w' ∧ Seg w' base e size a' (n + m) cap' (xs ++ news) ∧ Keeps (segF a) w w' ∧ Grows w (segF a) (segF a') := by
  have fresh : ∀ (w' : World) (a' : Option Addr) (c' : Nat), w'.ownsRow w.heap.size e size (.slice a' (n + m) c') (n + m) (xs ++ news) → Grows w (segF a) (segF a') := by
    intro w' a' c' ho k hk
    exact .inr (ho.lt k ((by cases a' <;> rfl : (Value.slice a' (n + m) c').ownBlock = (Value.slice a' 0 0).ownBlock).trans hk)).1
  have form : ∀ (v' : Value) (w' : World), w'.ownsRow w.heap.size e size v' (n + m) (xs ++ news) → ∃ a' c', v' = .slice a' (n + m) c' := by
    intro v' w' h2
    rcases h2.2 with ⟨h0, h0'⟩ | ⟨g, cap', _, h0, _⟩
    · exact ⟨none, 0, by rw [h0, h0']⟩
    · exact ⟨_, _, h0⟩
  rcases A with _ | ad
  · have hm : m = 0 := by
      rcases Nat.eq_zero_or_pos m with h0 | h0
      · exact h0
      · obtain ⟨ad, h, _⟩ := hr.2 h0
        cases h
    subst hm
    have hn : news = [] := List.eq_nil_of_length_eq_zero (by simpa using hr.1)
    subst hn
    refine ⟨a, cap, w, ?_, by simpa using hown, Keeps.refl _ _, Grows.refl _ _⟩
    have hnc := hown.2.1
    cases a <;> simp [Builtin.append_, run_underlying ht, sizeOf, typeInfo, hi, Builtin.lenOf, Builtin.firstCells, hnc, storeCells]
  · have hcells : ∀ j u, news[j]? = some u → w.cell? (ad.add j) = some u := by
      intro j u hu
      rcases Nat.eq_zero_or_pos m with h0 | h0
      · subst h0
        have hn : news = [] := List.eq_nil_of_length_eq_zero (by simpa using hr.1)
        subst hn
        simp at hu
      · obtain ⟨ad', h, hc⟩ := hr.2 h0
        injection h with h
        subst h
        exact hc j u hu
    rcases hown.2.2.2 with ⟨rfl, h0⟩ | ⟨g, off, cur, rfl, hbg, hh, hfit, hx⟩
    · subst h0
      have hn0 : n = 0 := by have := hown.2.1; omega
      subst hn0
      have hx0 : xs = [] := List.eq_nil_of_length_eq_zero (by simpa using hown.1)
      subst hx0
      obtain ⟨v', w', hrun, h2, h3, _, _⟩ := run_append_own_at (P := P) w w.heap.size t ty e i z size bytes ht hi hz hsize hby hzs hsz (.slice none 0 0) 0 [] (World.ownsRow_nil _ _ _ _) ad m c news hr.1 hcells h1 h63 hbytes (Nat.le_refl _)
      obtain ⟨a', c', rfl⟩ := form v' w' h2
      exact ⟨a', c', w', hrun, (Seg.of_own h2).base_ hbase, (Keeps.refl _ w).grown h3 (fun k hk => by simp [Value.ownBlock] at hk), fresh w' a' c' h2⟩
    · by_cases hroom : n + m ≤ cap
      · subst hsize
        have hin : off + n * i.size + news.length ≤ cur.size := by
          have e1 : (n + m) * i.size ≤ cap * i.size := Nat.mul_le_mul_right _ hroom
          rw [Nat.add_mul] at e1
          rw [hr.1]; omega
        have hrun := run_append_room_cells (P := P) w t ty e i ht hi g off n cap ad m c news hr.1 hcells h1 hroom
          (fun j hj => by
            rw [cell_of_row w g _ cur e (0, 0) hh]
            rw [Array.getElem?_eq_getElem (by omega)]; rfl)
          (fun j hj => by simp [World.frozen?, hh])
        refine ⟨_, cap, _, hrun, ⟨by rw [List.length_append, hown.1, hr.1, Nat.add_mul], hroom, hown.2.2.1, .inr ⟨g, off, _, rfl, hbg, heap_setCells g e news _ cur w hh, by rw [size_writeAt]; exact hfit, fun j u hu => ?_⟩⟩, keeps_setCells (S := segF (some ⟨g, off, none⟩)) g rfl news _ w w (Keeps.refl _ _), Grows.refl _ _⟩
        rw [List.getElem?_append] at hu
        split at hu
        · rename_i hj
          rw [writeAt_out _ _ _ _ (.inl (by rw [hown.1] at hj; omega))]
          exact hx j u hu
        · rename_i hj
          have hjl : j - xs.length < news.length := by
            rcases Nat.lt_or_ge (j - xs.length) news.length with h | h
            · exact h
            · rw [List.getElem?_eq_none h] at hu; cases hu
          rw [List.getElem?_eq_getElem hjl] at hu
          rw [show off + j = off + n * i.size + (j - xs.length) by rw [hown.1] at hj ⊢; omega, writeAt_in _ _ _ _ hjl hin, ← hu]
      · have holds : ∀ j u, xs[j]? = some u → w.cell? ((⟨g, off, none⟩ : Addr).add j) = some u := fun j u hu => by
          rw [addr_add, cell_of_row w g _ cur e (0, 0) hh]
          exact hx j u hu
        obtain ⟨v', w', hrun, h2, h3⟩ := run_append_arg_grows (P := P) w t ty e i z size bytes ht hi hz hsize hby hzs hsz ⟨g, off, none⟩ n cap xs hown.1 holds ad m c news hr.1 hcells (by omega) h63 hbytes
        obtain ⟨a', c', rfl⟩ := form v' w' h2
        exact ⟨a', c', w', hrun, (Seg.of_own h2).base_ hbase, (Keeps.refl _ w).grown h3 (fun k hk => by simp at hk), fresh w' a' c' h2⟩

theorem wp_append_seg {o : Oper} {ac : Act} {K : Act → World → Prop} {Q : Exit → Act → World → Prop} (s x : Operand) (t : TypeId)
    (ho : o.op = .call { callee := .builtin .append, args := #[s, x], argTypes := #[t, t] })
    (base : Nat) (e : TypeId) (i : TypeInfo) (z : Value) (size bytes : Nat) (ht : P.underlying t = some (.slice e)) (hi : P.info? e = some i) (hz : i.zero = some z)
    (hsize : i.size = size) (hby : i.bytes = bytes) (hzs : z.cells.size = size) (hsz : 0 < size)
    (a : Option Addr) (n cap : Nat) (xs : List Value) (hs : ac.eval s = .slice a n cap) (hown : Seg w base e size a n cap xs)
    (A : Option Addr) (m c : Nat) (news : List Value) (hx : ac.eval x = .slice A m c) (hr : Lies w size A m news) (h1 : ∀ u ∈ news, u.oneCell' = true)
    (h63 : n + m ≤ maxLen) (hbytes : (n + m) * bytes ≤ 140737488355328) (hbase : base ≤ w.heap.size)
    (h : ∀ a' cap' w', Seg w' base e size a' (n + m) cap' (xs ++ news) → Keeps (segF a) w w' → Grows w (segF a) (segF a') → K (ac.put o.dst (.slice a' (n + m) cap')) w') : o.wp P ac w K Q := by
  obtain ⟨a', cap', w', hrun, h2, h3, h4⟩ := run_append_seg (P := P) w base t o.type e i z size bytes ht hi hz hsize hby hzs hsz a n cap xs hown A m c news hr h1 h63 hbytes hbase
  unfold Oper.wp execOp
  simp only [ho, resolve, invoke, builtin, Sem.run_bind, Sem.run_pure, Result.andThen_ok, List.map_toArray, List.map_cons, List.map_nil, hs, hx, hrun]
  exact h a' cap' w' h2 h3 h4

theorem wpList_append_seg {ops : Array Oper} {rest : List Oper} {o : Oper} {ac : Act} {Q : Exit → Act → World → Prop} (hgd : o.guard = none) (s x : Operand) (t : TypeId)
    (ho : o.op = .call { callee := .builtin .append, args := #[s, x], argTypes := #[t, t] })
    (base : Nat) (e : TypeId) (i : TypeInfo) (z : Value) (size bytes : Nat) (ht : P.underlying t = some (.slice e)) (hi : P.info? e = some i) (hz : i.zero = some z)
    (hsize : i.size = size) (hby : i.bytes = bytes) (hzs : z.cells.size = size) (hsz : 0 < size)
    (a : Option Addr) (n cap : Nat) (xs : List Value) (hs : ac.eval s = .slice a n cap) (hown : Seg w base e size a n cap xs)
    (A : Option Addr) (m c : Nat) (news : List Value) (hx : ac.eval x = .slice A m c) (hr : Lies w size A m news) (h1 : ∀ u ∈ news, u.oneCell' = true)
    (h63 : n + m ≤ maxLen) (hbytes : (n + m) * bytes ≤ 140737488355328) (hbase : base ≤ w.heap.size)
    (h : ∀ a' cap' w', Seg w' base e size a' (n + m) cap' (xs ++ news) → Keeps (segF a) w w' → Grows w (segF a) (segF a') → wpList P ops Q rest (ac.put o.dst (.slice a' (n + m) cap')) w') : wpList P ops Q (o :: rest) ac w :=
  wpList_plain hgd fun _ hK => wp_append_seg w s x t ho base e i z size bytes ht hi hz hsize hby hzs hsz a n cap xs hs hown A m c news hx hr h1 h63 hbytes hbase fun a' c' w' h2 h3 h4 => hK _ _ (h a' c' w' h2 h3 h4)

theorem step_append_seg {ops : Array Oper} {o : Oper} {ac : Act} {K : Act → World → Prop} {Q : Exit → Act → World → Prop} {E : Prop} (hgd : o.guard = none) (s x : Operand) (t : TypeId)
    (ho : o.op = .call { callee := .builtin .append, args := #[s, x], argTypes := #[t, t] })
    (base : Nat) (e : TypeId) (i : TypeInfo) (z : Value) (size bytes : Nat) (ht : P.underlying t = some (.slice e)) (hi : P.info? e = some i) (hz : i.zero = some z)
    (hsize : i.size = size) (hby : i.bytes = bytes) (hzs : z.cells.size = size) (hsz : 0 < size)
    (a : Option Addr) (n cap : Nat) (xs : List Value) (hs : ac.eval s = .slice a n cap) (hown : Seg w base e size a n cap xs)
    (A : Option Addr) (m c : Nat) (news : List Value) (hx : ac.eval x = .slice A m c) (hr : Lies w size A m news) (h1 : ∀ u ∈ news, u.oneCell' = true)
    (h63 : n + m ≤ maxLen) (hbytes : (n + m) * bytes ≤ 140737488355328) (hbase : base ≤ w.heap.size)
    (h : ∀ a' cap' w', Seg w' base e size a' (n + m) cap' (xs ++ news) → Keeps (segF a) w w' → Grows w (segF a) (segF a') → K (ac.put o.dst (.slice a' (n + m) cap')) w') :
    if Region.wanted o (yielded ops ac.tmps) = true then Oper.wp P o ac w K Q else E := by
  have hw : Region.wanted o (yielded ops ac.tmps) = true := by simp [Region.wanted, hgd]
  rw [if_pos hw]
  exact wp_append_seg w s x t ho base e i z size bytes ht hi hz hsize hby hzs hsz a n cap xs hs hown A m c news hx hr h1 h63 hbytes hbase h
end
end Go.Proofs.Ytanhdcffbdhkcaa
