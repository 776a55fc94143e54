/- As XRegInv; a slot that one operation of the region writes is known as it was to each operation that stands ahead of that one. Over any program. No condition. -/
import Derived.Test.YthnlfgogibjbnaaGreatRegInv
namespace Go.Proofs.YthnlfgogibjbnaaGreat
set_option maxRecDepth 100000
open Go Go.RowKit
set_option linter.unusedVariables false
set_option linter.unusedSimpArgs false

/-- Each operation that writes slot t waits for operation i, or is it. -/
def keptB (ops : Array Oper) (i : Nat) (t : Tmp) : Bool := (List.range ops.size).all fun j => dstAt ops j != some t || (i == j || ((ops[j]?).map fun o => depB o i).getD false)
section
variable {P : Program} {ops : Array Oper} {Q : Exit → Act → World → Prop} {a0 : Act} {w0 : World} {V : Nat → Value → World → Prop}
def StepOk2 (P : Program) (ops : Array Oper) (Q : Exit → Act → World → Prop) (a0 : Act) (w0 : World) (V : Nat → Value → World → Prop) (i : Nat) (o : Oper) : Prop :=
  ∀ a w, RegAt ops a0 w0 V (fun j => depB o j = true) a w → (∀ t, keptB ops i t = true → a.tmps[t]? = a0.tmps[t]?) → ∀ K : Act → World → Prop, (∀ v w', Below w.heap.size w w' → V i v w' → K (a.put o.dst v) w') →
    if Region.wanted o (yielded ops a.tmps) = true then o.wp P a w K Q else K (a.put o.dst undef) w
theorem RegAt.not_wants {done : Nat → Prop} {a : Act} {w : World} (h : RegAt ops a0 w0 V done a w) {o : Oper} {g d : Nat} {b : Bool} (ho : o.guard = some (g, b)) (hg : done g) (hd : dstAt ops g = some d) (hv : ∀ v, V g v w → v = .bool (!b) ∨ v = undef) : Region.wanted o (yielded ops a.tmps) = false := by
  obtain ⟨v, h1, h2⟩ := h.got g d hg hd
  have h3 := hv v h2
  have e : ((ops[g]?).bind (·.dst)) = some d := hd
  unfold Region.wanted
  rw [ho]
  show (yielded ops a.tmps g == some b) = false
  unfold yielded
  rw [e]
  show ((match a.tmps[d]? with | some (.bool b) => some b | _ => none) == some b) = false
  rw [h1]
  rcases h3 with rfl | rfl
  · cases b <;> rfl
  · rfl
theorem RegAt.unwants {done : Nat → Prop} {a : Act} {w : World} (h : RegAt ops a0 w0 V done a w) {o : Oper} {g d : Nat} {b : Bool} (ho : o.guard = some (g, b)) (hg : done g) (hd : dstAt ops g = some d) (hv : ∀ v, V g v w → v = .bool (!b) ∨ v = undef) : ¬ (Region.wanted o (yielded ops a.tmps) = true) := by
  rw [h.not_wants ho hg hd hv]; decide
theorem kept_old {a : Act} {i : Nat} (h : ∀ t, keptB ops i t = true → a.tmps[t]? = a0.tmps[t]?) (t : Tmp) {v : Value} (ht : keptB ops i t = true) (hv : a0.tmps[t]? = some v) : a.tmps.getD t undef = v := by
  simp [Array.getD_eq_getD_getElem?, h t ht, hv]
theorem reg_any2 (hok : regionOk ops a0.tmps.size = true) (stab : ∀ i v w w', Below w.heap.size w w' → V i v w → V i v w')
    (step : ∀ i o, ops[i]? = some o → StepOk2 P ops Q a0 w0 V i o) (fin : ∀ a w, RegAt ops a0 w0 V (fun j => j < ops.size) a w → Q .normal a w) :
    ∀ (fuel : Nat) (listed : Array Bool) (a : Act) (w : World), listed.size = ops.size → listed.toList.count false ≤ fuel → RegAt ops a0 w0 V (fun j => listed[j]? = some true) a w → (∀ t, (∀ j, dstAt ops j = some t → listed[j]? = some false) → a.tmps[t]? = a0.tmps[t]?) → (∀ j : Nat, listed[j]? = some true → ∀ i : Nat, ((ops[j]?).map fun o => depB o i).getD false = true → listed[i]? = some true) → wpAny P .any ops Q fuel listed a w := by
  obtain ⟨k1, k2, k3⟩ := regionOk_spec hok
  have ready_iff : ∀ (listed : Array Bool) (i : Nat), listed.size = ops.size → i ∈ Region.ready .any ops listed → listed[i]? = some false ∧ ∃ o, ops[i]? = some o ∧ ∀ e ∈ o.after, Region.binds .any e = true → listed[e.on]? = some true := by
    intro listed i hz hi
    unfold Region.ready at hi
    obtain ⟨h1, h2⟩ := List.mem_filter.1 hi
    have hlt := List.mem_range.1 h1
    obtain ⟨h3, h4⟩ := Bool.and_eq_true_iff.1 h2
    have ho : ops[i]? = some ops[i] := Array.getElem?_eq_getElem hlt
    refine ⟨?_, ops[i], ho, fun e he hb => ?_⟩
    · rw [Array.getElem?_eq_getElem (by omega)]
      simp [Array.getD, hz, hlt] at h3
      rw [h3]
    · rw [ho] at h4
      have h5 := Array.all_eq_true_iff_forall_mem.1 (show (ops[i].after.all fun e => !Region.binds .any e || listed.getD e.on false) = true from h4) e he
      rw [hb] at h5
      simp only [Bool.not_true, Bool.false_or] at h5
      rw [Array.getD_eq_getD_getElem?] at h5
      cases hx : listed[e.on]? with
      | none => rw [hx] at h5; simp at h5
      | some b => rw [hx] at h5; simp at h5; rw [h5]
  have all_done : ∀ listed : Array Bool, listed.size = ops.size → Region.ready .any ops listed = [] → ∀ i, i < ops.size → listed[i]? = some true := by
    intro listed hz hr i
    induction i using Nat.strongRecOn with
    | ind i ih =>
      intro hi
      have hli : listed[i]? = some listed[i] := Array.getElem?_eq_getElem (by omega)
      by_cases hb : listed[i] = true
      · rw [hli, hb]
      · exfalso
        have : i ∈ Region.ready .any ops listed := by
          unfold Region.ready
          refine List.mem_filter.2 ⟨List.mem_range.2 hi, ?_⟩
          have hb' : listed[i] = false := by simpa using hb
          have ho : ops[i]? = some ops[i] := Array.getElem?_eq_getElem hi
          refine Bool.and_eq_true_iff.2 ⟨by simp [Array.getD, hz, hi, hb'], ?_⟩
          rw [ho]
          show (ops[i].after.all _) = true
          refine Array.all_eq_true_iff_forall_mem.2 fun e he => ?_
          by_cases hbd : Region.binds .any e = true
          · have hlt := k3 i ops[i] e ho he hbd
            have := ih e.on hlt (by omega)
            rw [Array.getD_eq_getD_getElem?, this]
            simp
          · simp [hbd]
        rw [hr] at this
        cases this
  intro fuel
  induction fuel with
  | zero =>
    intro listed a w hz hc h hO hDone
    have hall : ∀ i, i < ops.size → listed[i]? = some true := fun i hi => by
      have hli : listed[i]? = some listed[i] := Array.getElem?_eq_getElem (by omega)
      by_cases hb : listed[i] = true
      · rw [hli, hb]
      · exfalso
        have hb' : listed[i] = false := by simpa using hb
        have : false ∈ listed.toList := by
          rw [← hb']; simp
        have := List.count_pos_iff.2 this
        omega
    refine ⟨?_, fin a w ⟨h.bel, h.defers, h.size, h.out, fun j d hj hd => h.got j d (hall j hj) hd⟩⟩
    apply List.eq_nil_iff_forall_not_mem.2
    intro i hi
    obtain ⟨h1, o, ho, _⟩ := ready_iff listed i hz hi
    rw [hall i (Array.getElem?_eq_some_iff.1 ho).1] at h1
    cases h1
  | succ fuel ih =>
    intro listed a w hz hc h hO hDone
    refine ⟨fun hr => fin a w ⟨h.bel, h.defers, h.size, h.out, fun j d hj hd => h.got j d (all_done listed hz hr j hj) hd⟩, fun i hi => ?_⟩
    obtain ⟨h1, o, ho, hdep⟩ := ready_iff listed i hz hi
    have hc' : (listed.setIfInBounds i true).toList.count false ≤ fuel := by
      have := count_set_true listed.toList i (by simpa using h1)
      simp only [Array.toList_setIfInBounds]
      omega
    have hat : RegAt ops a0 w0 V (fun j => depB o j = true) a w := ⟨h.bel, h.defers, h.size, h.out, fun j d hj hd => by
      unfold depB at hj
      obtain ⟨e, he, hb⟩ := Array.any_eq_true'.1 hj
      simp only [Bool.and_eq_true, beq_iff_eq] at hb
      exact h.got j d (by rw [← hb.2]; exact hdep e he hb.1) hd⟩
    refine wpOp_step ho fun K hK => ?_
    have hold : ∀ t, keptB ops i t = true → a.tmps[t]? = a0.tmps[t]? := fun t ht => hO t fun j hj => by
      have hjs : j < ops.size := by
        rcases Nat.lt_or_ge j ops.size with h | h
        · exact h
        · unfold dstAt at hj; rw [Array.getElem?_eq_none h] at hj; cases hj
      have hb := List.all_eq_true.1 ht j (List.mem_range.2 hjs)
      rw [hj] at hb
      simp only [bne_self_eq_false, Bool.false_or, Bool.or_eq_true, beq_iff_eq] at hb
      have hlj : listed[j]? = some listed[j] := Array.getElem?_eq_getElem (by omega)
      cases hv : listed[j]
      · rw [hlj, hv]
      · exfalso
        rcases hb with hb | hb
        · subst hb; rw [h1] at hlj; injection hlj with hlj; rw [← hlj] at hv; cases hv
        · have hready := hDone j (by rw [hlj, hv])
          have := hready i hb
          rw [this] at h1
          cases h1
    have hdi : dstAt ops i = o.dst := by unfold dstAt; rw [ho]; rfl
    have hput : ∀ d, o.dst = some d → d < a.tmps.size := fun d hd => by rw [h.size]; exact k1 i o d ho hd
    refine step i o ho a w hat hold K fun v w' hb hv => hK _ _ (ih _ _ _ (by simpa using hz) hc' ?_ ?_ ?_)
    · refine ⟨h.bel.trans (hb.mono h.bel.size), ?_, ?_, fun t ht => ?_, fun j d hj hd => ?_⟩
      · rw [← h.defers]; unfold Act.put; cases o.dst <;> rfl
      · rw [← h.size]; unfold Act.put; cases o.dst <;> simp
      · rw [← h.out t ht]
        have hne : o.dst ≠ some t := by
          have := Array.all_eq_true_iff_forall_mem.1 ht o (Array.mem_of_getElem? ho)
          simpa using this
        unfold Act.put
        cases hd : o.dst with
        | none => rfl
        | some d =>
          have : d ≠ t := fun e => hne (by rw [hd, e])
          simp [Array.getElem?_setIfInBounds, this]
      · by_cases hji : j = i
        · subst hji
          have hd' : o.dst = some d := by rw [← hdi, hd]
          refine ⟨v, ?_, hv⟩
          unfold Act.put
          rw [hd']
          simp [Array.getElem?_setIfInBounds, hput d hd']
        · rw [Array.getElem?_setIfInBounds_ne (fun e => hji e.symm)] at hj
          obtain ⟨u, hu, hvu⟩ := h.got j d hj hd
          refine ⟨u, ?_, stab j u w w' hb hvu⟩
          rw [← hu]
          unfold Act.put
          cases hd' : o.dst with
          | none => rfl
          | some d' =>
            have : d' ≠ d := fun e => hji (k2 j i d hd (by rw [hdi, hd', e]))
            simp [Array.getElem?_setIfInBounds, this]
    · intro t ht
      have hne : o.dst ≠ some t := fun e => by
        have := ht i (by rw [hdi, e])
        rw [Array.getElem?_setIfInBounds_self_of_lt (by rw [hz]; exact (Array.getElem?_eq_some_iff.1 ho).1)] at this
        cases this
      rw [← hO t (fun j hj => by
        have := ht j hj
        have hji : j ≠ i := fun e => hne (by rw [← hdi, ← e, hj])
        rwa [Array.getElem?_setIfInBounds_ne (fun e => hji e.symm)] at this)]
      unfold Act.put
      cases hd : o.dst with
      | none => rfl
      | some d =>
        have : d ≠ t := fun e => hne (by rw [hd, e])
        simp [Array.getElem?_setIfInBounds, this]
    · intro j hj k hk
      by_cases hki : k = i
      · subst hki; rw [Array.getElem?_setIfInBounds_self_of_lt (by rw [hz]; exact (Array.getElem?_eq_some_iff.1 ho).1)]
      · rw [Array.getElem?_setIfInBounds_ne (fun e => hki e.symm)]
        by_cases hji : j = i
        · subst hji
          rw [ho] at hk
          have hk' : depB o k = true := hk
          unfold depB at hk'
          obtain ⟨e, he, hb2⟩ := Array.any_eq_true'.1 hk'
          simp only [Bool.and_eq_true, beq_iff_eq] at hb2
          rw [← hb2.2]
          exact hdep e he hb2.1
        · rw [Array.getElem?_setIfInBounds_ne (fun e => hji e.symm)] at hj
          exact hDone j hj k hk

/-- The steps of all operations, one by one. -/
def stepsFrom2 (P : Program) (ops : Array Oper) (Q : Exit → Act → World → Prop) (a0 : Act) (w0 : World) (V : Nat → Value → World → Prop) (k : Nat) (l : List Oper) : Prop := ∀ i o, l[i]? = some o → StepOk2 P ops Q a0 w0 V (k + i) o
theorem steps2_nil {k : Nat} : stepsFrom2 P ops Q a0 w0 V k [] := fun i o h => by simp at h
theorem steps2_cons {k k' : Nat} {o : Oper} {l : List Oper} (hk : k' = k + 1) (h : StepOk2 P ops Q a0 w0 V k o) (t : stepsFrom2 P ops Q a0 w0 V k' l) : stepsFrom2 P ops Q a0 w0 V k (o :: l) := fun i o' h' => by
  cases i with
  | zero => simp at h'; subst h'; exact h
  | succ i => subst hk; have := t i o' (by simpa using h'); rwa [Nat.add_assoc, Nat.add_comm 1 i] at this

theorem wp_region_inv2 {id : Nat} {l : List Oper} {a : Act} {w : World} (V : Nat → Value → World → Prop) (hm : P.follows .mixedOrders = true) (hok : regionOk l.toArray a.tmps.size = true)
    (stab : ∀ i v w w', Below w.heap.size w w' → V i v w → V i v w')
    (step : stepsFrom2 P l.toArray Q a w.drew V 0 l) (fin : ∀ a' w', RegAt l.toArray a w.drew V (fun j => j < l.toArray.size) a' w' → Q .normal a' w') : (Code.region id l.toArray true).wp P Q a w :=
  wp_region_any hm (reg_any2 (w0 := w.drew) hok stab (fun i o h => by have := step i o (by simpa using h); rwa [Nat.zero_add] at this) fin _ _ a w.drew (by simp) (by simp) ⟨Below.refl _ _, rfl, rfl, fun _ _ => rfl, fun j d hj _ => by
    rw [Array.getElem?_replicate] at hj; split at hj <;> cases hj⟩ (fun _ _ => rfl) (fun j hj => by
    rw [Array.getElem?_replicate] at hj; split at hj <;> cases hj))
end
end Go.Proofs.YthnlfgogibjbnaaGreat
