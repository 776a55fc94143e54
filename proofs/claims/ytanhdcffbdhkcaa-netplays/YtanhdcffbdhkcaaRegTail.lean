/- A region that draws its order, whose last operation waits for all others and may write: what the others leave, in whatever order, then the last one. Over any program. No condition. -/
import Derived.Test.YtanhdcffbdhkcaaRegInv
namespace Go.Proofs.Ytanhdcffbdhkcaa
set_option maxRecDepth 100000
open Go Go.RowKit
set_option linter.unusedVariables false
set_option linter.unusedSimpArgs false

def depsOf (ops : Array Oper) (i : Nat) : List Nat := ((ops[i]?).map fun o => (o.after.toList.filter fun e => Region.binds .any e).map (·.on)).getD []
def sweep (ops : Array Oper) : Nat → List Nat → List Nat
  | 0, M => M
  | k + 1, M => sweep ops k (if M.contains k = true then M ++ depsOf ops k else M)
/-- The last operation waits for all others. -/
def tailOk (ops : Array Oper) : Bool := (List.range (ops.size - 1)).all fun j => (sweep ops ops.size [ops.size - 1]).contains j

section
variable {P : Program} {ops : Array Oper} {Q : Exit → Act → World → Prop} {a0 : Act} {w0 : World} {V : Nat → Value → World → Prop}

theorem sweep_ok {listed : Nat → Prop} {last : Nat} (hd : ∀ i, (i = last ∨ listed i) → ∀ j ∈ depsOf ops i, listed j) : ∀ (k : Nat) (M : List Nat), (∀ m ∈ M, m = last ∨ listed m) → ∀ m ∈ sweep ops k M, m = last ∨ listed m := by
  intro k
  induction k with
  | zero => intro M h; exact h
  | succ k ih =>
    intro M h
    rw [sweep]
    apply ih
    split
    · rename_i hk
      intro m hm
      rcases List.mem_append.1 hm with hm | hm
      · exact h m hm
      · exact .inr (hd k (h k (by simpa using hk)) m hm)
    · exact h

theorem ready_get {listed : Array Bool} {i : Nat} (hz : listed.size = ops.size) (hi : i ∈ Region.ready .any ops listed) : listed[i]? = some false ∧ ∃ o, ops[i]? = some o ∧ ∀ e ∈ o.after, Region.binds .any e = true → listed[e.on]? = some true := by
  unfold Region.ready at hi
  obtain ⟨h1, h2⟩ := List.mem_filter.1 hi
  have hlt := List.mem_range.1 h1
  obtain ⟨h3, h4⟩ := Bool.and_eq_true_iff.1 h2
  have ho : ops[i]? = some ops[i] := Array.getElem?_eq_getElem hlt
  refine ⟨?_, ops[i], ho, fun e he hb => ?_⟩
  · rw [Array.getElem?_eq_getElem (by omega)]
    simp [Array.getD, hz, hlt] at h3
    rw [h3]
  · rw [ho] at h4
    have h5 := Array.all_eq_true_iff_forall_mem.1 (show (ops[i].after.all fun e => !Region.binds .any e || listed.getD e.on false) = true from h4) e he
    rw [hb] at h5
    simp only [Bool.not_true, Bool.false_or] at h5
    rw [Array.getD_eq_getD_getElem?] at h5
    cases hx : listed[e.on]? with
    | none => rw [hx] at h5; simp at h5
    | some b => rw [hx] at h5; simp at h5; rw [h5]
theorem ready_none {listed : Array Bool} (hz : listed.size = ops.size) (h : ∀ i, i < ops.size → listed[i]? = some true) : Region.ready .any ops listed = [] := by
  apply List.eq_nil_iff_forall_not_mem.2
  intro i hi
  obtain ⟨h1, o, ho, _⟩ := ready_get hz hi
  rw [h i (Array.getElem?_eq_some_iff.1 ho).1] at h1
  cases h1
theorem ready_some {listed : Array Bool} (hok : ∀ i o e, ops[i]? = some o → e ∈ o.after → Region.binds .any e = true → e.on < i) (hz : listed.size = ops.size) (hr : Region.ready .any ops listed = []) : ∀ i, i < ops.size → listed[i]? = some true := by
  intro i
  induction i using Nat.strongRecOn with
  | ind i ih =>
    intro hi
    have hli : listed[i]? = some listed[i] := Array.getElem?_eq_getElem (by omega)
    by_cases hb : listed[i] = true
    · rw [hli, hb]
    · exfalso
      have : i ∈ Region.ready .any ops listed := by
        unfold Region.ready
        refine List.mem_filter.2 ⟨List.mem_range.2 hi, ?_⟩
        have hb' : listed[i] = false := by simpa using hb
        have ho : ops[i]? = some ops[i] := Array.getElem?_eq_getElem hi
        refine Bool.and_eq_true_iff.2 ⟨by simp [Array.getD, hz, hi, hb'], ?_⟩
        rw [ho]
        show (ops[i].after.all _) = true
        refine Array.all_eq_true_iff_forall_mem.2 fun e he => ?_
        by_cases hbd : Region.binds .any e = true
        · have hlt := hok i ops[i] e ho he hbd
          have := ih e.on hlt (by omega)
          rw [Array.getD_eq_getD_getElem?, this]
          simp
        · simp [hbd]
      rw [hr] at this
      cases this
/-- One step of those that leave what V says. -/
theorem reg_put {n : Nat} (hok : regionOk ops n = true) (hn : a0.tmps.size = n) (stab : ∀ i v w w', Below w.heap.size w w' → V i v w → V i v w') {done : Nat → Prop} {a : Act} {w w' : World} (h : RegAt ops a0 w0 V done a w) {i : Nat} {o : Oper} (ho : ops[i]? = some o)
    {v : Value} (hb : Below w.heap.size w w') (hv : V i v w') : RegAt ops a0 w0 V (fun j => done j ∨ j = i) (a.put o.dst v) w' := by
  obtain ⟨k1, k2, _⟩ := regionOk_spec hok
  have hdi : dstAt ops i = o.dst := by unfold dstAt; rw [ho]; rfl
  have hput : ∀ d, o.dst = some d → d < a.tmps.size := fun d hd => by rw [h.size, hn]; exact k1 i o d ho hd
  refine ⟨h.bel.trans (hb.mono h.bel.size), ?_, ?_, fun t ht => ?_, fun j d hj hd => ?_⟩
  · rw [← h.defers]; unfold Act.put; cases o.dst <;> rfl
  · rw [← h.size]; unfold Act.put; cases o.dst <;> simp
  · rw [← h.out t ht]
    have hne : o.dst ≠ some t := by
      have := Array.all_eq_true_iff_forall_mem.1 ht o (Array.mem_of_getElem? ho)
      simpa using this
    unfold Act.put
    cases hd : o.dst with
    | none => rfl
    | some d =>
      have : d ≠ t := fun e => hne (by rw [hd, e])
      simp [Array.getElem?_setIfInBounds, this]
  · by_cases hji : j = i
    · subst hji
      have hd' : o.dst = some d := by rw [← hdi, hd]
      refine ⟨v, ?_, hv⟩
      unfold Act.put
      rw [hd']
      simp [Array.getElem?_setIfInBounds, hput d hd']
    · obtain ⟨u, hu, hvu⟩ := h.got j d (hj.resolve_right hji) hd
      refine ⟨u, ?_, stab j u w w' hb hvu⟩
      rw [← hu]
      unfold Act.put
      cases hd' : o.dst with
      | none => rfl
      | some d' =>
        have : d' ≠ d := fun e => hji (k2 j i d hd (by rw [hdi, hd', e]))
        simp [Array.getElem?_setIfInBounds, this]

def Closed (ops : Array Oper) (listed : Array Bool) : Prop := ∀ i, listed[i]? = some true → ∀ j ∈ depsOf ops i, listed[j]? = some true

theorem reg_tail (hok : regionOk ops a0.tmps.size = true) (htl : tailOk ops = true) {last : Nat} (hlast : last + 1 = ops.size) (stab : ∀ i v w w', Below w.heap.size w w' → V i v w → V i v w')
    (step : ∀ i o, i < last → ops[i]? = some o → StepOk P ops Q a0 w0 V i o)
    (fin : ∀ o a w, ops[last]? = some o → RegAt ops a0 w0 V (fun j => j < last) a w → ∀ K : Act → World → Prop, (∀ a w, Q .normal a w → K a w) → if Region.wanted o (yielded ops a.tmps) = true then o.wp P a w K Q else K (a.put o.dst undef) w) :
    ∀ (fuel : Nat) (listed : Array Bool) (a : Act) (w : World), listed.size = ops.size → listed.toList.count false ≤ fuel → listed[last]? = some false → Closed ops listed → RegAt ops a0 w0 V (fun j => listed[j]? = some true) a w → wpAny P .any ops Q fuel listed a w := by
  obtain ⟨k1, k2, k3⟩ := regionOk_spec hok
  intro fuel
  induction fuel with
  | zero =>
    intro listed a w hz hc hl
    exfalso
    have : false ∈ listed.toList := List.mem_of_getElem? (by simpa using hl)
    have := List.count_pos_iff.2 this
    omega
  | succ fuel ih =>
    intro listed a w hz hc hl hcl h
    refine ⟨fun hr => ?_, fun i hi => ?_⟩
    · have := ready_some k3 hz hr last (by omega)
      rw [this] at hl; cases hl
    obtain ⟨h1, o, ho, hdep⟩ := ready_get hz hi
    have hdeps : ∀ j ∈ depsOf ops i, listed[j]? = some true := fun j hj => by
      unfold depsOf at hj
      rw [ho] at hj
      simp only [Option.map_some, Option.getD_some] at hj
      obtain ⟨e, he, rfl⟩ := List.mem_map.1 hj
      obtain ⟨he1, he2⟩ := List.mem_filter.1 he
      exact hdep e (by simpa using he1) he2
    have hlt : i < ops.size := (Array.getElem?_eq_some_iff.1 ho).1
    refine wpOp_step ho fun K hK => ?_
    by_cases hil : i = last
    · subst hil
      have hall : ∀ j, j < i → listed[j]? = some true := fun j hj => by
        have h2 := List.all_eq_true.1 htl j (List.mem_range.2 (by omega))
        rw [show ops.size - 1 = i by omega] at h2
        rcases sweep_ok (ops := ops) (listed := fun j => listed[j]? = some true) (last := i) (fun k hk j' hj' => by
          rcases hk with e | hk
          · rw [e] at hj'; exact hdeps j' hj'
          · exact hcl k hk j' hj') ops.size [i] (by simp) j (by simpa using h2) with h3 | h3
        · omega
        · exact h3
      refine fin o a w ho ⟨h.bel, h.defers, h.size, h.out, fun j d hj hd => h.got j d (hall j hj) hd⟩ K fun a' w' hq => hK _ _ ?_
      have hdone : ∀ j, j < ops.size → (listed.setIfInBounds i true)[j]? = some true := fun j hj => by
        by_cases e : j = i
        · subst e; simp [hz, hlt]
        · rw [Array.getElem?_setIfInBounds_ne (fun e' => e e'.symm)]; exact hall j (by omega)
      have hr := ready_none (ops := ops) (listed := listed.setIfInBounds i true) (by simpa using hz) hdone
      cases fuel with
      | zero => exact ⟨hr, hq⟩
      | succ _ => exact ⟨fun _ => hq, by rw [hr]; simp⟩
    · have hc' : (listed.setIfInBounds i true).toList.count false ≤ fuel := by
        have := count_set_true listed.toList i (by simpa using h1)
        simp only [Array.toList_setIfInBounds]
        omega
      have hat : RegAt ops a0 w0 V (fun j => depB o j = true) a w := ⟨h.bel, h.defers, h.size, h.out, fun j d hj hd => by
        unfold depB at hj
        obtain ⟨e, he, hb⟩ := Array.any_eq_true'.1 hj
        simp only [Bool.and_eq_true, beq_iff_eq] at hb
        exact h.got j d (by rw [← hb.2]; exact hdep e he hb.1) hd⟩
      refine step i o (by omega) ho a w hat K fun v w' hb hv => hK _ _ (ih _ _ _ (by simpa using hz) hc' ?_ ?_ ?_)
      · rw [Array.getElem?_setIfInBounds_ne hil]; exact hl
      · intro k hk j hj
        by_cases e : j = i
        · subst e; simp [hz, hlt]
        · rw [Array.getElem?_setIfInBounds_ne (fun e' => e e'.symm)]
          by_cases ek : k = i
          · subst ek; exact hdeps j hj
          · rw [Array.getElem?_setIfInBounds_ne (fun e' => ek e'.symm)] at hk; exact hcl k hk j hj
      · have := reg_put hok rfl stab h ho hb hv
        refine ⟨this.bel, this.defers, this.size, this.out, fun j d hj hd => this.got j d ?_ hd⟩
        by_cases e : j = i
        · exact .inr e
        · rw [Array.getElem?_setIfInBounds_ne (fun e' => e e'.symm)] at hj; exact .inl hj

theorem wp_region_tail {id : Nat} {l : List Oper} {o : Oper} {a : Act} {w : World} (last : Nat) (V : Nat → Value → World → Prop) (hm : P.follows .mixedOrders = true) (hlen : l.length = last + 1) (ho : l[last]? = some o) (hok : regionOk l.toArray a.tmps.size = true) (htl : tailOk l.toArray = true)
    (stab : ∀ i v w w', Below w.heap.size w w' → V i v w → V i v w')
    (step : stepsFrom P l.toArray Q a w.drew V 0 (l.take last))
    (fin : ∀ a' w', RegAt l.toArray a w.drew V (fun j => j < last) a' w' → ∀ K : Act → World → Prop, (∀ a w, Q .normal a w → K a w) → if Region.wanted o (yielded l.toArray a'.tmps) = true then o.wp P a' w' K Q else K (a'.put o.dst undef) w') : (Code.region id l.toArray true).wp P Q a w :=
  wp_region_any hm (reg_tail (w0 := w.drew) hok htl (last := last) (by simp [hlen]) stab
    (fun i o' hi h => by have := step i o' (by rw [List.getElem?_take, if_pos hi]; simpa using h); rwa [Nat.zero_add] at this)
    (fun o' a' w' h' hF => by
      have : o' = o := by have h2 : l[last]? = some o' := by simpa using h'
                          rw [ho] at h2; injection h2 with h2; exact h2.symm
      subst this
      exact fin a' w' hF) _ _ a w.drew (by simp) (by simp)
    (by rw [Array.getElem?_replicate, if_pos (by simp [hlen])])
    (fun i hi => by rw [Array.getElem?_replicate] at hi; split at hi <;> cases hi)
    ⟨Below.refl _ _, rfl, rfl, fun _ _ => rfl, fun j d hj _ => by
      rw [Array.getElem?_replicate] at hj; split at hj <;> cases hj⟩)
/-- The slots that a region's operations write. -/
def dsts (ops : Array Oper) : List Nat := ops.toList.filterMap (·.dst)
theorem fold_get (T : Array Value) : ∀ (D : List Nat) (A : Array Value) (t : Nat), A.size = T.size → (D.foldl (fun arr d => arr.setIfInBounds d (T.getD d undef)) A).size = T.size ∧
    ((D.foldl (fun arr d => arr.setIfInBounds d (T.getD d undef)) A)[t]? = T[t]? ∨ (D.contains t = false ∧ (D.foldl (fun arr d => arr.setIfInBounds d (T.getD d undef)) A)[t]? = A[t]?)) := by
  intro D
  induction D with
  | nil => intro A t hs; exact ⟨hs, .inr ⟨rfl, rfl⟩⟩
  | cons d D ih =>
    intro A t hs
    rw [List.foldl_cons]
    obtain ⟨h1, h2⟩ := ih (A.setIfInBounds d (T.getD d undef)) t (by simpa using hs)
    refine ⟨h1, ?_⟩
    rcases h2 with h2 | ⟨h2, h3⟩
    · exact .inl h2
    · rw [h3]
      by_cases hd : d = t
      · subst hd
        left
        by_cases hl : d < T.size
        · rw [Array.getElem?_setIfInBounds_self_of_lt (by omega)]
          simp [Array.getD_eq_getD_getElem?, hl]
        · rw [Array.getElem?_eq_none (by simp; omega), Array.getElem?_eq_none (by omega)]
      · right
        refine ⟨?_, by rw [Array.getElem?_setIfInBounds_ne hd]⟩
        simp at h2 ⊢
        exact ⟨fun e => hd e.symm, h2⟩
theorem RegAt.frame {done : Nat → Prop} {a : Act} {w : World} (h : RegAt ops a0 w0 V done a w) : a = ⟨(dsts ops).foldl (fun arr d => arr.setIfInBounds d (a.tmps.getD d undef)) a0.tmps, a0.defers⟩ := by
  obtain ⟨T, D⟩ := a
  have hd := h.defers
  have hs := h.size
  have ho := h.out
  simp only at hd hs ho
  subst hd
  congr 1
  apply Array.ext_getElem?
  intro t
  rcases (fold_get T (dsts ops) a0.tmps t hs.symm).2 with h1 | ⟨h1, h2⟩
  · exact h1.symm
  · rw [h2]
    apply ho
    unfold outB
    refine Array.all_eq_true_iff_forall_mem.2 fun o hm => ?_
    rw [bne_iff_ne]
    intro e
    have : t ∈ dsts ops := List.mem_filterMap.2 ⟨o, by simpa using hm, e⟩
    simp at h1
    exact h1 this
end
end Go.Proofs.Ytanhdcffbdhkcaa
