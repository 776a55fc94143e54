/- A map whose keys are whole numbers, as a function: what stands at a key; behind a store; in a range's rounds. For any program, any element that can be told from its value. No condition. -/
import Derived.Test.YtacogpogplionaaBase
import Derived.Maps.Own
import Derived.Maps.OwnSet
import Derived.Maps.RangeWalk
namespace Go.Proofs.Ytacogpogplionaa.MI
set_option maxRecDepth 100000
open Go.RowKit Go.Maps
set_option linter.unusedVariables false

/-- How an element's value is told: 'enc' lays it, 'dec' tells it. -/
structure Codec (β : Type) where
  enc : β → Value
  dec : Value → Option β
  back : ∀ c, dec (enc c) = some c
  only : ∀ v c, dec v = some c → v = enc c

def rdC {β : Type} (E : Codec β) (v : Value) : Option (DataW β × List MemPlace) := (E.dec v).map fun c => (.held c, [])
theorem rdC_enc {β : Type} (E : Codec β) (c : β) : rdC E (E.enc c) = some (.held c, []) := by simp [rdC, E.back]
theorem rdC_inv {β : Type} {E : Codec β} {v : Value} {y : DataW β × List MemPlace} (h : rdC E v = some y) : ∃ c, v = E.enc c ∧ y = (.held c, []) := by
  unfold rdC at h
  cases hd : E.dec v with
  | none => rw [hd] at h; cases h
  | some c => rw [hd] at h; injection h with h; exact ⟨c, E.only v c hd, h.symm⟩

def WfI (x : Int) : Prop := (Lit.int .i64 x).wf = true
def View {β : Type} (D : DataW β) (f : Int → Option β) : Prop := ∀ x, WfI x → ∀ zd, D.atKey (.int .i64 x) zd = ((f x).map DataW.held).getD zd
def putF {β : Type} (f : Int → Option β) (x : Int) (c : β) : Int → Option β := fun y => if y = x then some c else f y
theorem putF_same {β : Type} (f : Int → Option β) (x : Int) (c : β) : putF f x c x = some c := by simp [putF]
theorem putF_other {β : Type} (f : Int → Option β) {x y : Int} (c : β) (h : y ≠ x) : putF f x c y = f y := by simp [putF, h]

section
variable {β : Type} {E : Codec β} {P : Program} {k e : TypeId} {w w' : World} {b n : Nat} {f : Int → Option β}

/-- Block b is a map of at most n entries: f says what stands at a key. -/
def MapAt (E : Codec β) (P : Program) (k : TypeId) (w : World) (b n : Nat) (f : Int → Option β) : Prop := ∃ D : DataW β, w.ownsMap P k (rdC E) b n D ∧ View D f

theorem View.has {D : DataW β} (h : View D f) {x : Int} (hx : WfI x) : Maps.has D (.int .i64 x) = (f x).isSome := by
  cases hf : f x with
  | none => exact Maps.has_false_of_atKey fun z => by rw [h x hx, hf]; rfl
  | some c => exact Maps.has_true_of_atKey (y := .held c) fun z => by rw [h x hx, hf]; rfl
theorem View.put {D : DataW β} (hk : P.underlying k = some (.int .i64)) (hD : IsMap D) (h : View D f) {x : Int} (hx : WfI x) (c : β) : View (D.put (.int .i64 x) (.held c)) (putF f x c) := by
  intro y hy zd
  by_cases he : y = x
  · subst he
    rw [Maps.atKey_put_same hD ((int_keyed hk).key (keyOf_int_mk hk hx)), putF_same]; rfl
  · rw [Maps.atKey_put_other (fun e => he (by injection e)), h y hy, putF_other f c he]
theorem MapAt.made (w : World) : MapAt E P k (w.alloc (.map #[] 0)) w.heap.size 0 (fun _ => none) := ⟨.map [], World.ownsMap_made _ _ _ _, fun _ _ _ => rfl⟩
theorem MapAt.lt (h : MapAt E P k w b n f) : b < w.heap.size := by obtain ⟨D, h, _⟩ := h; exact h.lt
theorem MapAt.mono (h : MapAt E P k w b n f) {n' : Nat} (hn : n ≤ n') : MapAt E P k w b n' f := by obtain ⟨D, h, v⟩ := h; exact ⟨D, h.mono hn, v⟩
theorem MapAt.obj (h : MapAt E P k w b n f) : ∃ es clock, w.heap[b]? = some (.map es clock) := by obtain ⟨D, ⟨es, clock, hb, _⟩, _⟩ := h; exact ⟨es, clock, hb⟩
theorem MapAt.keeps {S : Nat → Prop} (h : MapAt E P k w b n f) (hk : Keeps S w w') (hn : ¬ S b) : MapAt E P k w' b n f := by
  obtain ⟨D, ⟨es, clock, hb, F, hs, hD⟩, hv⟩ := h
  have hlt : b < w.heap.size := (Array.getElem?_eq_some_iff.1 hb).1
  exact ⟨D, ⟨es, clock, (hk.block b hlt hn).trans hb, F, hs, hD⟩, hv⟩
theorem MapAt.alloc (h : MapAt E P k w b n f) (o : Obj) : MapAt E P k (w.alloc o) b n f := h.keeps (S := fun _ => False) ((Keeps.refl _ _).alloc o) id
theorem MapAt.drew (h : MapAt E P k w b n f) : MapAt E P k w.drew b n f := h.keeps (S := fun _ => False) ((Keeps.refl _ _).drew) id
theorem MapAt.drewN (h : MapAt E P k w b n f) (m : Nat) : MapAt E P k (w.drewN m) b n f := h.keeps (S := fun _ => False) ((Keeps.refl _ _).drewN m) id
theorem MapAt.setCell (h : MapAt E P k w b n f) {a : Addr} (ha : b ≠ a.block) (u : Value) : MapAt E P k (w.setCell a u) b n f := by obtain ⟨D, h, v⟩ := h; exact ⟨D, h.setCell ha u, v⟩
theorem MapAt.blk {g : Nat} {t : TypeId} {cs : Array Value} (h : MapAt E P k w b n f) (hg : Blk w g t cs) : b ≠ g := by
  rintro rfl
  obtain ⟨es, clock, hb⟩ := h.obj
  unfold Blk at hg
  rw [hb] at hg
  cases hg
theorem own_map_ne {base : Nat} {e : TypeId} {size n : Nat} {v : Value} {ys : List Value} {es : Array MapEntry} {clock : Nat} (h : w.ownsRow base e size v n ys) (hb : w.heap[b]? = some (.map es clock)) : v.ownBlock ≠ some b := by
  rcases h.2 with ⟨rfl, _⟩ | ⟨g', cap, cur, rfl, _, hh, _⟩
  · simp [Value.ownBlock]
  · intro he
    have : g' = b := by simpa [Value.ownBlock] using he
    subst this
    rw [hh] at hb
    cases hb
theorem MapAt.ext {f' : Int → Option β} (h : MapAt E P k w b n f) (he : ∀ x, WfI x → f x = f' x) : MapAt E P k w b n f' := by
  obtain ⟨D, h, v⟩ := h
  exact ⟨D, h, fun x hx zd => by rw [v x hx, he x hx]⟩

/-- A range over a map, under way: 'left' says whose entry is still to come. -/
def RangeAt (E : Codec β) (P : Program) (k : TypeId) (w : World) (b r n : Nat) (f : Int → Option β) (left : Int → Bool) (cnt : Nat) : Prop :=
  ∃ (D : DataW β) (l : Lit → Bool), w.ranges P k (rdC E) b r n D l cnt ∧ View D f ∧ ∀ x, WfI x → l (.int .i64 x) = left x
theorem RangeAt.owns {left : Int → Bool} {cnt r : Nat} (h : RangeAt E P k w b r n f left cnt) : MapAt E P k w b n f := by obtain ⟨D, l, h, v, _⟩ := h; exact ⟨D, h.owns, v⟩
theorem RangeAt.left_eq {left : Int → Bool} {cnt r : Nat} (h : RangeAt E P k w b r n f left cnt) : w.rangeLeft b r = cnt := by obtain ⟨D, l, h, _⟩ := h; exact h.left_eq
theorem RangeAt.ne {left : Int → Bool} {cnt r : Nat} (h : RangeAt E P k w b r n f left cnt) : r ≠ b := by obtain ⟨D, l, h, _⟩ := h; exact h.ne
theorem RangeAt.lt {left : Int → Bool} {cnt r : Nat} (h : RangeAt E P k w b r n f left cnt) : r < w.heap.size := by obtain ⟨D, l, h, _⟩ := h; exact h.lt
theorem RangeAt.kept {left : Int → Bool} {cnt r : Nat} {row : Option Nat} (h : RangeAt E P k w b r n f left cnt) (hg : w.grownBy w' row) (hb' : some b ≠ row) (hr' : some r ≠ row) : RangeAt E P k w' b r n f left cnt := by
  obtain ⟨D, l, h, v⟩ := h; exact ⟨D, l, h.kept hg hb' hr', v⟩
end

/-! ### at the operations -/
section
variable {β : Type} {E : Codec β} {P : Program} (w : World) {ops : Array Oper} {rest : List Oper} {o : Oper} {a : Act} {Q : Exit → Act → World → Prop}

theorem wp_look (hg : o.guard = none) (m x : Operand) (t : TypeId) (hop : o.op = Op.lookup t m x false)
    (k e : TypeId) (hk : P.underlying k = some (.int .i64)) (ht : P.underlying t = some (.map k e)) (z0 : β) (hz : (zeroValue e).run P w = .ok (E.enc z0) w) (b n : Nat) (f : Int → Option β)
    (hm : a.eval m = .map (some b)) (h : MapAt E P k w b n f) (i : Int) (hx : a.eval x = .int .i64 i) (hi : WfI i)
    (hK : wpList P ops Q rest (a.put o.dst (E.enc ((f i).getD z0))) w) :
    wpList P ops Q (o :: rest) a w := by
  refine wpList_plain hg fun K' hK' => ?_
  obtain ⟨D, hown, hv⟩ := h
  obtain ⟨v, ps, hrun, hR⟩ := hown.lookup (int_keyed hk) ht hz (rdC_enc E z0) (keyOf_int_mk hk hi)
  rw [hv i hi] at hR
  obtain ⟨c, rfl, hc⟩ := rdC_inv hR
  have hc' : c = (f i).getD z0 := by
    have h1 := congrArg Prod.fst hc
    cases hf : f i with
    | none => rw [hf] at h1; simp at h1; simp [h1]
    | some c1 => rw [hf] at h1; simp at h1; simp [h1]
  unfold Oper.wp
  simp [execOp, hop, hm, hx, hrun, Result.andThen]
  rw [hc']
  exact hK' _ _ hK

theorem wp_look_ok (hg : o.guard = none) (m x : Operand) (t : TypeId) (hop : o.op = Op.lookup t m x true)
    (k e : TypeId) (hk : P.underlying k = some (.int .i64)) (ht : P.underlying t = some (.map k e)) (z0 : β) (hz : (zeroValue e).run P w = .ok (E.enc z0) w) (b n : Nat) (f : Int → Option β)
    (hm : a.eval m = .map (some b)) (h : MapAt E P k w b n f) (i : Int) (hx : a.eval x = .int .i64 i) (hi : WfI i)
    (hK : wpList P ops Q rest (a.put o.dst (.tuple #[E.enc ((f i).getD z0), .bool (f i).isSome])) w) :
    wpList P ops Q (o :: rest) a w := by
  refine wpList_plain hg fun K' hK' => ?_
  obtain ⟨D, hown, hv⟩ := h
  obtain ⟨v, ps, hrun, hR⟩ := hown.look_ok (int_keyed hk) ht hz (rdC_enc E z0) (keyOf_int_mk hk hi)
  rw [hv i hi] at hR
  obtain ⟨c, rfl, hc⟩ := rdC_inv hR
  have hc' : c = (f i).getD z0 := by
    have h1 := congrArg Prod.fst hc
    cases hf : f i with
    | none => rw [hf] at h1; simp at h1; simp [h1]
    | some c1 => rw [hf] at h1; simp at h1; simp [h1]
  rw [hv.has hi] at hrun
  unfold Oper.wp
  simp [execOp, hop, hm, hx, hrun, Result.andThen]
  rw [hc']
  exact hK' _ _ hK

theorem wp_store (hg : o.guard = none) (m x v : Operand) (t : TypeId) (hop : o.op = Op.mapUpdate t m x v)
    (k e : TypeId) (hk : P.underlying k = some (.int .i64)) (ht : P.underlying t = some (.map k e)) (b n : Nat) (f : Int → Option β)
    (hm : a.eval m = .map (some b)) (h : MapAt E P k w b n f) (hn : n < maxLen) (i : Int) (c : β) (hx : a.eval x = .int .i64 i) (hi : WfI i) (hv : a.eval v = E.enc c)
    (hK : ∀ w', MapAt E P k w' b (n + 1) (putF f i c) → w.grownBy w' (some b) → wpList P ops Q rest (a.put o.dst undef) w') :
    wpList P ops Q (o :: rest) a w := by
  refine wpList_plain hg fun K' hK' => ?_
  obtain ⟨D, hown, hvw⟩ := h
  obtain ⟨w', hrun, r1, r2⟩ := hown.update (int_keyed hk) ht hn (keyOf_int_mk hk hi) (rdC_enc E c)
  unfold Oper.wp
  simp [execOp, hop, hm, hx, hv, hrun, Result.andThen]
  exact hK' _ _ (hK w' ⟨_, r1, hvw.put hk hown.isMap hi c⟩ r2)

theorem wp_range (hg : o.guard = none) (m : Operand) (t : TypeId) (hop : o.op = Op.range t m) (k e : TypeId) (hk : P.underlying k = some (.int .i64)) (ht : P.underlying t = some (.map k e)) (b n : Nat) (f : Int → Option β)
    (hm : a.eval m = .map (some b)) (h : MapAt E P k w b n f)
    (hK : ∀ w' cnt, cnt ≤ n → RangeAt E P k w' b w.heap.size n f (fun x => (f x).isSome) cnt → w.grownBy w' none → w'.heap.size = w.heap.size + 1 → wpList P ops Q rest (a.put o.dst (.pointer (some ⟨w.heap.size, 0, none⟩))) w') :
    wpList P ops Q (o :: rest) a w := by
  obtain ⟨D, hown, hv⟩ := h
  exact wpList_range_own w hg m t hop k e (int_keyed hk) ht (rdC E) b n D hm hown fun w' h1 h2 h3 => hK w' _ hown.size_le ⟨D, _, h1, hv, fun x hx => hv.has hx⟩ h2 h3

theorem wp_next (hg : o.guard = none) (it : Operand) (hop : o.op = Op.next it false) (k : TypeId) (hk : P.underlying k = some (.int .i64))
    (b r n : Nat) (f : Int → Option β) (left : Int → Bool) (cnt : Nat) (hit : a.eval it = .pointer (some ⟨r, 0, none⟩)) (h : RangeAt E P k w b r n f left cnt)
    (hDone : cnt = 0 → (∀ x, WfI x → left x = false) → wpList P ops Q rest (a.put o.dst (.tuple #[.bool false])) w)
    (hMore : ∀ (x : Int) (c : β) (w' : World) (cnt' : Nat), WfI x → left x = true → f x = some c → RangeAt E P k w' b r n f (fun z => left z && !(z == x)) cnt' → cnt' < cnt →
      w.grownBy w' (some r) → w'.heap.size = w.heap.size → (Instr.entry (.pointer (some ⟨r, 0, none⟩))).run P w' = .ok (.tuple #[.int .i64 x, E.enc c]) w' → wpList P ops Q rest (a.put o.dst (.tuple #[.bool true, .int .i64 x, E.enc c])) w') :
    wpList P ops Q (o :: rest) a w := by
  obtain ⟨D, l, hr, hv, hl⟩ := h
  refine wpList_next_ranges w hg it hop k (int_keyed hk) (rdC E) (Value.int .i64) E.enc (fun key kl hkey => by obtain ⟨x, rfl, _⟩ := Maps.keyOf_int_inv hk hkey; exact ⟨x, rfl⟩) (fun v y hy => by obtain ⟨c, rfl, _⟩ := rdC_inv hy; exact ⟨c, rfl⟩)
    b r n D l cnt hit hr (fun h0 hl0 => hDone h0 fun x hx => by rw [← hl x hx]; exact hl0 _) (fun x c kl y w' cnt' hkey hlk hy hat hrg hlt hgr hsz hen => ?_)
  obtain ⟨x', ex, rfl, hwx⟩ := Maps.keyOf_int_inv hk hkey
  cases ex
  obtain ⟨c', ec, rfl⟩ := rdC_inv hy
  have hcc : c' = c := by
    have h1 := E.back c'
    rw [← ec, E.back] at h1
    injection h1 with h1
    exact h1.symm
  subst hcc
  refine hMore x c' w' cnt' hwx (by rw [← hl x hwx]; exact hlk) ?_ ⟨D, _, hrg, hv, fun z hz => ?_⟩ hlt hgr hsz hen
  · have h1 := hat .nil
    rw [hv x hwx] at h1
    cases hf : f x with
    | none => rw [hf] at h1; cases h1
    | some c1 => rw [hf] at h1; simp at h1; rw [h1]
  · show (l (.int .i64 z) && !(Lit.int .i64 z).sameKey (.int .i64 x)) = _
    rw [hl z hz]
    congr 1
    by_cases hzx : z = x
    · subst hzx
      rw [WideAt.sameKey_self ((int_keyed hk).key (keyOf_int_mk hk hwx))]; simp
    · rw [Maps.sameKey_ne (fun e => hzx (by injection e))]; simp [hzx]
end
end Go.Proofs.Ytacogpogplionaa.MI
