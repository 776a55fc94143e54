/- A region that draws its order, all of whose operations only read or make memory: by what each operation leaves, in whatever order. Over any program. No condition. -/
import Derived.Test.YthnlfgogibjbnaaGreatBase
import Derived.RegionTactic
import Derived.Deep.RegionWith
namespace Go.Proofs.YthnlfgogibjbnaaGreat
set_option maxRecDepth 100000
open Go Go.RowKit
set_option linter.unusedVariables false
set_option linter.unusedSimpArgs false

def depB (o : Oper) (j : Nat) : Bool := o.after.any fun e => Region.binds .any e && e.on == j
def dstAt (ops : Array Oper) (j : Nat) : Option Tmp := (ops[j]?).bind (·.dst)
def outB (ops : Array Oper) (t : Nat) : Bool := ops.all fun o => o.dst != some t
/-- No two operations write one slot; all slots are there; each operation waits for earlier ones alone. -/
def regionOk (ops : Array Oper) (n : Nat) : Bool :=
  (ops.all fun o => match o.dst with | some d => decide (d < n) | none => true) &&
  ((List.range ops.size).all fun i => (List.range ops.size).all fun j => i == j || (dstAt ops i).isNone || dstAt ops i != dstAt ops j) &&
  ((List.range ops.size).all fun i => ((ops[i]?).map fun o => o.after.all fun e => !Region.binds .any e || decide (e.on < i)).getD true)

section
variable {P : Program} {ops : Array Oper} {Q : Exit → Act → World → Prop} {a0 : Act} {w0 : World} {V : Nat → Value → World → Prop}

structure RegAt (ops : Array Oper) (a0 : Act) (w0 : World) (V : Nat → Value → World → Prop) (done : Nat → Prop) (a : Act) (w : World) : Prop where
  bel : Below w0.heap.size w0 w
  defers : a.defers = a0.defers
  size : a.tmps.size = a0.tmps.size
  out : ∀ t, outB ops t = true → a.tmps[t]? = a0.tmps[t]?
  got : ∀ j d, done j → dstAt ops j = some d → ∃ v, a.tmps[d]? = some v ∧ V j v w

def StepOk (P : Program) (ops : Array Oper) (Q : Exit → Act → World → Prop) (a0 : Act) (w0 : World) (V : Nat → Value → World → Prop) (i : Nat) (o : Oper) : Prop :=
  ∀ a w, RegAt ops a0 w0 V (fun j => depB o j = true) a w → ∀ K : Act → World → Prop, (∀ v w', Below w.heap.size w w' → V i v w' → K (a.put o.dst v) w') →
    if Region.wanted o (yielded ops a.tmps) = true then o.wp P a w K Q else K (a.put o.dst undef) w

theorem RegAt.val {done : Nat → Prop} {a : Act} {w : World} (h : RegAt ops a0 w0 V done a w) (j d : Nat) (hj : done j) (hd : dstAt ops j = some d) : ∃ v, a.tmps.getD d undef = v ∧ a.tmps[d]? = some v ∧ V j v w := by
  obtain ⟨v, h1, h2⟩ := h.got j d hj hd
  exact ⟨v, by simp [Array.getD_eq_getD_getElem?, h1], h1, h2⟩
theorem RegAt.old {done : Nat → Prop} {a : Act} {w : World} (h : RegAt ops a0 w0 V done a w) (t : Nat) {v : Value} (ht : outB ops t = true) (hv : a0.tmps[t]? = some v) : a.tmps.getD t undef = v := by
  simp [Array.getD_eq_getD_getElem?, h.out t ht, hv]
theorem wanted_none {o : Oper} {y : Nat → Option Bool} (h : o.guard = none) : Region.wanted o y = true := by unfold Region.wanted; rw [h]
theorem RegAt.wants {done : Nat → Prop} {a : Act} {w : World} (h : RegAt ops a0 w0 V done a w) {o : Oper} {g d : Nat} {b : Bool} (ho : o.guard = some (g, b)) (hg : done g) (hd : dstAt ops g = some d) (hv : ∀ v, V g v w → v = .bool b) : Region.wanted o (yielded ops a.tmps) = true := by
  obtain ⟨v, h1, h2⟩ := h.got g d hg hd
  have h3 := hv v h2
  subst h3
  have e : ((ops[g]?).bind (·.dst)) = some d := hd
  unfold Region.wanted
  rw [ho]
  show (yielded ops a.tmps g == some b) = true
  unfold yielded
  rw [e]
  show ((match a.tmps[d]? with | some (.bool b) => some b | _ => none) == some b) = true
  rw [h1]
  simp

theorem count_set_true (l : List Bool) (i : Nat) (h : l[i]? = some false) : (l.set i true).count false + 1 = l.count false := by
  induction l generalizing i with
  | nil => simp at h
  | cons b l ih =>
    cases i with
    | zero => simp at h; subst h; simp
    | succ i =>
      simp at h
      have := ih i h
      simp only [List.set_cons_succ, List.count_cons]
      omega

theorem regionOk_spec {n : Nat} (h : regionOk ops n = true) : (∀ (i : Nat) (o : Oper) (d : Nat), ops[i]? = some o → o.dst = some d → d < n) ∧ (∀ (i j d : Nat), dstAt ops i = some d → dstAt ops j = some d → i = j) ∧ (∀ (i : Nat) (o : Oper) (e : Edge), ops[i]? = some o → e ∈ o.after → Region.binds .any e = true → e.on < i) := by
  unfold regionOk at h
  simp only [Bool.and_eq_true] at h
  obtain ⟨⟨h1, h2⟩, h3⟩ := h
  refine ⟨fun i o d hi hd => ?_, fun i j d hi hj => ?_, fun i o e hi he hb => ?_⟩
  · have := Array.all_eq_true_iff_forall_mem.1 h1 o (Array.mem_of_getElem? hi)
    rw [hd] at this
    simpa using this
  · have hb : ∀ k, dstAt ops k = some d → k < ops.size := fun k hk => by
      unfold dstAt at hk
      rcases Nat.lt_or_ge k ops.size with h | h
      · exact h
      · rw [Array.getElem?_eq_none h] at hk; cases hk
    have := List.all_eq_true.1 (List.all_eq_true.1 h2 i (List.mem_range.2 (hb i hi))) j (List.mem_range.2 (hb j hj))
    rw [hi, hj] at this
    simpa using this
  · have hlt : i < ops.size := (Array.getElem?_eq_some_iff.1 hi).1
    have := List.all_eq_true.1 h3 i (List.mem_range.2 hlt)
    rw [hi] at this
    have h4 := Array.all_eq_true_iff_forall_mem.1 (show (o.after.all fun e => !Region.binds .any e || decide (e.on < i)) = true from this) e he
    rw [hb] at h4
    simpa using h4

theorem reg_any (hok : regionOk ops a0.tmps.size = true) (stab : ∀ i v w w', Below w.heap.size w w' → V i v w → V i v w')
    (step : ∀ i o, ops[i]? = some o → StepOk P ops Q a0 w0 V i o) (fin : ∀ a w, RegAt ops a0 w0 V (fun j => j < ops.size) a w → Q .normal a w) :
    ∀ (fuel : Nat) (listed : Array Bool) (a : Act) (w : World), listed.size = ops.size → listed.toList.count false ≤ fuel → RegAt ops a0 w0 V (fun j => listed[j]? = some true) a w → wpAny P .any ops Q fuel listed a w := by
  obtain ⟨k1, k2, k3⟩ := regionOk_spec hok
  have ready_iff : ∀ (listed : Array Bool) (i : Nat), listed.size = ops.size → i ∈ Region.ready .any ops listed → listed[i]? = some false ∧ ∃ o, ops[i]? = some o ∧ ∀ e ∈ o.after, Region.binds .any e = true → listed[e.on]? = some true := by
    intro listed i hz hi
    unfold Region.ready at hi
    obtain ⟨h1, h2⟩ := List.mem_filter.1 hi
    have hlt := List.mem_range.1 h1
    obtain ⟨h3, h4⟩ := Bool.and_eq_true_iff.1 h2
    have ho : ops[i]? = some ops[i] := Array.getElem?_eq_getElem hlt
    refine ⟨?_, ops[i], ho, fun e he hb => ?_⟩
    · rw [Array.getElem?_eq_getElem (by omega)]
      simp [Array.getD, hz, hlt] at h3
      rw [h3]
    · rw [ho] at h4
      have h5 := Array.all_eq_true_iff_forall_mem.1 (show (ops[i].after.all fun e => !Region.binds .any e || listed.getD e.on false) = true from h4) e he
      rw [hb] at h5
      simp only [Bool.not_true, Bool.false_or] at h5
      rw [Array.getD_eq_getD_getElem?] at h5
      cases hx : listed[e.on]? with
      | none => rw [hx] at h5; simp at h5
      | some b => rw [hx] at h5; simp at h5; rw [h5]
  have all_done : ∀ listed : Array Bool, listed.size = ops.size → Region.ready .any ops listed = [] → ∀ i, i < ops.size → listed[i]? = some true := by
    intro listed hz hr i
    induction i using Nat.strongRecOn with
    | ind i ih =>
      intro hi
      have hli : listed[i]? = some listed[i] := Array.getElem?_eq_getElem (by omega)
      by_cases hb : listed[i] = true
      · rw [hli, hb]
      · exfalso
        have : i ∈ Region.ready .any ops listed := by
          unfold Region.ready
          refine List.mem_filter.2 ⟨List.mem_range.2 hi, ?_⟩
          have hb' : listed[i] = false := by simpa using hb
          have ho : ops[i]? = some ops[i] := Array.getElem?_eq_getElem hi
          refine Bool.and_eq_true_iff.2 ⟨by simp [Array.getD, hz, hi, hb'], ?_⟩
          rw [ho]
          show (ops[i].after.all _) = true
          refine Array.all_eq_true_iff_forall_mem.2 fun e he => ?_
          by_cases hbd : Region.binds .any e = true
          · have hlt := k3 i ops[i] e ho he hbd
            have := ih e.on hlt (by omega)
            rw [Array.getD_eq_getD_getElem?, this]
            simp
          · simp [hbd]
        rw [hr] at this
        cases this
  intro fuel
  induction fuel with
  | zero =>
    intro listed a w hz hc h
    have hall : ∀ i, i < ops.size → listed[i]? = some true := fun i hi => by
      have hli : listed[i]? = some listed[i] := Array.getElem?_eq_getElem (by omega)
      by_cases hb : listed[i] = true
      · rw [hli, hb]
      · exfalso
        have hb' : listed[i] = false := by simpa using hb
        have : false ∈ listed.toList := by
          rw [← hb']; simp
        have := List.count_pos_iff.2 this
        omega
    refine ⟨?_, fin a w ⟨h.bel, h.defers, h.size, h.out, fun j d hj hd => h.got j d (hall j hj) hd⟩⟩
    apply List.eq_nil_iff_forall_not_mem.2
    intro i hi
    obtain ⟨h1, o, ho, _⟩ := ready_iff listed i hz hi
    rw [hall i (Array.getElem?_eq_some_iff.1 ho).1] at h1
    cases h1
  | succ fuel ih =>
    intro listed a w hz hc h
    refine ⟨fun hr => fin a w ⟨h.bel, h.defers, h.size, h.out, fun j d hj hd => h.got j d (all_done listed hz hr j hj) hd⟩, fun i hi => ?_⟩
    obtain ⟨h1, o, ho, hdep⟩ := ready_iff listed i hz hi
    have hc' : (listed.setIfInBounds i true).toList.count false ≤ fuel := by
      have := count_set_true listed.toList i (by simpa using h1)
      simp only [Array.toList_setIfInBounds]
      omega
    have hat : RegAt ops a0 w0 V (fun j => depB o j = true) a w := ⟨h.bel, h.defers, h.size, h.out, fun j d hj hd => by
      unfold depB at hj
      obtain ⟨e, he, hb⟩ := Array.any_eq_true'.1 hj
      simp only [Bool.and_eq_true, beq_iff_eq] at hb
      exact h.got j d (by rw [← hb.2]; exact hdep e he hb.1) hd⟩
    refine wpOp_step ho fun K hK => ?_
    refine step i o ho a w hat K fun v w' hb hv => hK _ _ (ih _ _ _ (by simpa using hz) hc' ?_)
    have hdi : dstAt ops i = o.dst := by unfold dstAt; rw [ho]; rfl
    have hput : ∀ d, o.dst = some d → d < a.tmps.size := fun d hd => by rw [h.size]; exact k1 i o d ho hd
    refine ⟨h.bel.trans (hb.mono h.bel.size), ?_, ?_, fun t ht => ?_, fun j d hj hd => ?_⟩
    · rw [← h.defers]; unfold Act.put; cases o.dst <;> rfl
    · rw [← h.size]; unfold Act.put; cases o.dst <;> simp
    · rw [← h.out t ht]
      have hne : o.dst ≠ some t := by
        have := Array.all_eq_true_iff_forall_mem.1 ht o (Array.mem_of_getElem? ho)
        simpa using this
      unfold Act.put
      cases hd : o.dst with
      | none => rfl
      | some d =>
        have : d ≠ t := fun e => hne (by rw [hd, e])
        simp [Array.getElem?_setIfInBounds, this]
    · by_cases hji : j = i
      · subst hji
        have hd' : o.dst = some d := by rw [← hdi, hd]
        refine ⟨v, ?_, hv⟩
        unfold Act.put
        rw [hd']
        simp [Array.getElem?_setIfInBounds, hput d hd']
      · rw [Array.getElem?_setIfInBounds_ne (fun e => hji e.symm)] at hj
        obtain ⟨u, hu, hvu⟩ := h.got j d hj hd
        refine ⟨u, ?_, stab j u w w' hb hvu⟩
        rw [← hu]
        unfold Act.put
        cases hd' : o.dst with
        | none => rfl
        | some d' =>
          have : d' ≠ d := fun e => hji (k2 j i d hd (by rw [hdi, hd', e]))
          simp [Array.getElem?_setIfInBounds, this]

/-- The steps of all operations, one by one. -/
def stepsFrom (P : Program) (ops : Array Oper) (Q : Exit → Act → World → Prop) (a0 : Act) (w0 : World) (V : Nat → Value → World → Prop) (k : Nat) (l : List Oper) : Prop := ∀ i o, l[i]? = some o → StepOk P ops Q a0 w0 V (k + i) o
theorem steps_nil {k : Nat} : stepsFrom P ops Q a0 w0 V k [] := fun i o h => by simp at h
theorem steps_cons {k k' : Nat} {o : Oper} {l : List Oper} (hk : k' = k + 1) (h : StepOk P ops Q a0 w0 V k o) (t : stepsFrom P ops Q a0 w0 V k' l) : stepsFrom P ops Q a0 w0 V k (o :: l) := fun i o' h' => by
  cases i with
  | zero => simp at h'; subst h'; exact h
  | succ i => subst hk; have := t i o' (by simpa using h'); rwa [Nat.add_assoc, Nat.add_comm 1 i] at this

theorem wp_region_inv {id : Nat} {l : List Oper} {a : Act} {w : World} (V : Nat → Value → World → Prop) (hm : P.follows .mixedOrders = true) (hok : regionOk l.toArray a.tmps.size = true)
    (stab : ∀ i v w w', Below w.heap.size w w' → V i v w → V i v w')
    (step : stepsFrom P l.toArray Q a w.drew V 0 l) (fin : ∀ a' w', RegAt l.toArray a w.drew V (fun j => j < l.toArray.size) a' w' → Q .normal a' w') : (Code.region id l.toArray true).wp P Q a w :=
  wp_region_any hm (reg_any (w0 := w.drew) hok stab (fun i o h => by have := step i o (by simpa using h); rwa [Nat.zero_add] at this) fin _ _ a w.drew (by simp) (by simp) ⟨Below.refl _ _, rfl, rfl, fun _ _ => rfl, fun j d hj _ => by
    rw [Array.getElem?_replicate] at hj; split at hj <;> cases hj⟩)
end
theorem belowThen {w a b : World} (h : Below w.heap.size w a) (k : Below a.heap.size a b) : Below w.heap.size w b := h.trans (k.mono h.size)
theorem belowNew {w a : World} (h : Below w.heap.size w a) (o : Obj) : Below w.heap.size w (a.alloc o) := h.alloc h.size _
theorem belowDrew {w a : World} (h : Below w.heap.size w a) : Below w.heap.size w a.drew := h.drew
theorem belowUndrew {w w' : World} (h : Below w.drew.heap.size w.drew w') : Below w.heap.size w w' := ⟨h.os, h.tape, h.output, h.size, h.block⟩
theorem end_ret {P : Program} {fn : Func} {R : Ending → World → Prop} {a : Act} {w : World} {t : Tmp} {v : Value} (h : fn.results = #[.tmp t]) (e : a.tmps.getD t undef = v) (hd : a.defers = []) (hR : R (.returned v) w) : bodyPost P fn R .ret a w :=
  bodyPost_ret (by rw [results_tmp h, e]) hd hR
theorem belowSame (w : World) : Below w.heap.size w w := Below.refl _ _
theorem blkAt {w : World} {g : Nat} {t : TypeId} {cs : Array Value} (h : g = w.heap.size) : Blk (w.alloc (.cells cs t)) g t cs := by subst h; exact Blk.new _ _ _
theorem belowOfEq {w w' : World} (h : w = w') : Below w.heap.size w w' := h ▸ Below.refl _ _
def Stab (p : Value → World → Prop) : Prop := ∀ v w w', Below w.heap.size w w' → p v w → p v w'
def SliceAt (t : TypeId) (cs : Array Value) (v : Value) (w : World) : Prop := ∃ g, v = .slice (some ⟨g, 0, none⟩) cs.size cs.size ∧ Blk w g t cs
theorem slice_at {t : TypeId} {cs : Array Value} {v : Value} {w : World} (h : SliceAt t cs v w) : ∃ g, v = .slice (some ⟨g, 0, none⟩) cs.size cs.size ∧ Blk w g t cs := h
theorem stab_eq (c : Value) : Stab (fun v _ => v = c) := fun _ _ _ _ h => h
theorem stab_slice (t : TypeId) (cs : Array Value) : Stab (fun v w => SliceAt t cs v w) := fun v w w' hb h => by
  obtain ⟨g, e, hk⟩ := h
  exact ⟨g, e, hk.below hb hk.lt⟩
def AllStab (l : List (Value → World → Prop)) : Prop := ∀ i, Stab (l.getD i fun _ _ => True)
theorem allStab_nil : AllStab [] := fun i v w w' _ h => h
theorem allStab_cons {p : Value → World → Prop} {l : List (Value → World → Prop)} (h : Stab p) (t : AllStab l) : AllStab (p :: l) := fun i => by
  cases i with
  | zero => exact h
  | succ i => exact t i
theorem stab_list {l : List (Value → World → Prop)} (h : AllStab l) : ∀ i v w w', Below w.heap.size w w' → l.getD i (fun _ _ => True) v w → l.getD i (fun _ _ => True) v w' := fun i v w w' hb hv => h i v w w' hb hv
end Go.Proofs.YthnlfgogibjbnaaGreat
