/- Part 1 of the texts that the proof stands on, joined: RegInv, Sup1, More, Crc, Wire, Four, Wire2, RefSum, Row, Open, SumOf, Seal, OpenSum, Bytes, Reader, ReadSum, StampSum, SumAlive, CrcInj, SumSet, Sup2, Sup3, MapInt, DkPure, DkDef, Dk1, DkLib, Dk2, Dk3, Dk4, Dk5, Dk6, Dk7, Dk8. No condition. -/
import Derived.Test.YtakilnpfhljgfaaGreatBase
import Derived.RegionTactic
import Derived.Deep.RegionWith
import Derived.Test.YtakilnpfhljgfaaGreatChecked
import Derived.WalkKit
import Derived.Laws.Bits64
import Derived.Test.YtakilnpfhljgfaaGreatAppend
import Derived.BigQuiet
import Derived.Deep.QuietTactic
import Derived.Deep.RegionLaw
import Derived.WalkSpells
import Derived.WalkLawsBesides
import Derived.Handy
import Derived.Laws.BytesArg
import Derived.Lib.Hide
import Derived.OpenShut
import Derived.ProofKit
import Derived.SliceStrings
import Derived.Deep.Slices
import Derived.Test.YtakilnpfhljgfaaGreatShelf
import Derived.Deep.RegionHeld3
import Derived.Lib.ConvBytes
import Derived.WideShapes
import Derived.Maps.Own
import Derived.Maps.OwnSet
import Derived.Maps.RangeWalk
import Derived.StillTailTactics
import Derived.Lib.SliceRun
import Derived.Lib.AppendStr
import Derived.Laws.Externs
/- A region that draws its order, all of whose operations only read or make memory: by what each operation leaves, in whatever order. Over any program. No condition. -/
namespace Go.Proofs.YtakilnpfhljgfaaGreat
set_option maxRecDepth 100000
open Go Go.RowKit
set_option linter.unusedVariables false
set_option linter.unusedSimpArgs false

def depB (o : Oper) (j : Nat) : Bool := o.after.any fun e => Region.binds .any e && e.on == j
def dstAt (ops : Array Oper) (j : Nat) : Option Tmp := (ops[j]?).bind (·.dst)
def outB (ops : Array Oper) (t : Nat) : Bool := ops.all fun o => o.dst != some t
/-- No two operations write one slot; all slots are there; each operation waits for earlier ones alone. -/
def regionOk (ops : Array Oper) (n : Nat) : Bool :=
  (ops.all fun o => match o.dst with | some d => decide (d < n) | none => true) &&
  ((List.range ops.size).all fun i => (List.range ops.size).all fun j => i == j || (dstAt ops i).isNone || dstAt ops i != dstAt ops j) &&
  ((List.range ops.size).all fun i => ((ops[i]?).map fun o => o.after.all fun e => !Region.binds .any e || decide (e.on < i)).getD true)

section
variable {P : Program} {ops : Array Oper} {Q : Exit → Act → World → Prop} {a0 : Act} {w0 : World} {V : Nat → Value → World → Prop}

structure RegAt (ops : Array Oper) (a0 : Act) (w0 : World) (V : Nat → Value → World → Prop) (done : Nat → Prop) (a : Act) (w : World) : Prop where
  bel : Below w0.heap.size w0 w
  defers : a.defers = a0.defers
  size : a.tmps.size = a0.tmps.size
  out : ∀ t, outB ops t = true → a.tmps[t]? = a0.tmps[t]?
  got : ∀ j d, done j → dstAt ops j = some d → ∃ v, a.tmps[d]? = some v ∧ V j v w

def StepOk (P : Program) (ops : Array Oper) (Q : Exit → Act → World → Prop) (a0 : Act) (w0 : World) (V : Nat → Value → World → Prop) (i : Nat) (o : Oper) : Prop :=
  ∀ a w, RegAt ops a0 w0 V (fun j => depB o j = true) a w → ∀ K : Act → World → Prop, (∀ v w', Below w.heap.size w w' → V i v w' → K (a.put o.dst v) w') →
    if Region.wanted o (yielded ops a.tmps) = true then o.wp P a w K Q else K (a.put o.dst undef) w

theorem RegAt.val {done : Nat → Prop} {a : Act} {w : World} (h : RegAt ops a0 w0 V done a w) (j d : Nat) (hj : done j) (hd : dstAt ops j = some d) : ∃ v, a.tmps.getD d undef = v ∧ a.tmps[d]? = some v ∧ V j v w := by
  obtain ⟨v, h1, h2⟩ := h.got j d hj hd
  exact ⟨v, by simp [Array.getD_eq_getD_getElem?, h1], h1, h2⟩
theorem RegAt.old {done : Nat → Prop} {a : Act} {w : World} (h : RegAt ops a0 w0 V done a w) (t : Nat) {v : Value} (ht : outB ops t = true) (hv : a0.tmps[t]? = some v) : a.tmps.getD t undef = v := by
  simp [Array.getD_eq_getD_getElem?, h.out t ht, hv]
theorem wanted_none {o : Oper} {y : Nat → Option Bool} (h : o.guard = none) : Region.wanted o y = true := by unfold Region.wanted; rw [h]
theorem RegAt.wants {done : Nat → Prop} {a : Act} {w : World} (h : RegAt ops a0 w0 V done a w) {o : Oper} {g d : Nat} {b : Bool} (ho : o.guard = some (g, b)) (hg : done g) (hd : dstAt ops g = some d) (hv : ∀ v, V g v w → v = .bool b) : Region.wanted o (yielded ops a.tmps) = true := by
  obtain ⟨v, h1, h2⟩ := h.got g d hg hd
  have h3 := hv v h2
  subst h3
  have e : ((ops[g]?).bind (·.dst)) = some d := hd
  unfold Region.wanted
  rw [ho]
  show (yielded ops a.tmps g == some b) = true
  unfold yielded
  rw [e]
  show ((match a.tmps[d]? with | some (.bool b) => some b | _ => none) == some b) = true
  rw [h1]
  simp

theorem count_set_true (l : List Bool) (i : Nat) (h : l[i]? = some false) : (l.set i true).count false + 1 = l.count false := by
  induction l generalizing i with
  | nil => simp at h
  | cons b l ih =>
    cases i with
    | zero => simp at h; subst h; simp
    | succ i =>
      simp at h
      have := ih i h
      simp only [List.set_cons_succ, List.count_cons]
      omega

theorem regionOk_spec {n : Nat} (h : regionOk ops n = true) : (∀ (i : Nat) (o : Oper) (d : Nat), ops[i]? = some o → o.dst = some d → d < n) ∧ (∀ (i j d : Nat), dstAt ops i = some d → dstAt ops j = some d → i = j) ∧ (∀ (i : Nat) (o : Oper) (e : Edge), ops[i]? = some o → e ∈ o.after → Region.binds .any e = true → e.on < i) := by
  unfold regionOk at h
  simp only [Bool.and_eq_true] at h
  obtain ⟨⟨h1, h2⟩, h3⟩ := h
  refine ⟨fun i o d hi hd => ?_, fun i j d hi hj => ?_, fun i o e hi he hb => ?_⟩
  · have := Array.all_eq_true_iff_forall_mem.1 h1 o (Array.mem_of_getElem? hi)
    rw [hd] at this
    simpa using this
  · have hb : ∀ k, dstAt ops k = some d → k < ops.size := fun k hk => by
      unfold dstAt at hk
      rcases Nat.lt_or_ge k ops.size with h | h
      · exact h
      · rw [Array.getElem?_eq_none h] at hk; cases hk
    have := List.all_eq_true.1 (List.all_eq_true.1 h2 i (List.mem_range.2 (hb i hi))) j (List.mem_range.2 (hb j hj))
    rw [hi, hj] at this
    simpa using this
  · have hlt : i < ops.size := (Array.getElem?_eq_some_iff.1 hi).1
    have := List.all_eq_true.1 h3 i (List.mem_range.2 hlt)
    rw [hi] at this
    have h4 := Array.all_eq_true_iff_forall_mem.1 (show (o.after.all fun e => !Region.binds .any e || decide (e.on < i)) = true from this) e he
    rw [hb] at h4
    simpa using h4

theorem reg_any (hok : regionOk ops a0.tmps.size = true) (stab : ∀ i v w w', Below w.heap.size w w' → V i v w → V i v w')
    (step : ∀ i o, ops[i]? = some o → StepOk P ops Q a0 w0 V i o) (fin : ∀ a w, RegAt ops a0 w0 V (fun j => j < ops.size) a w → Q .normal a w) :
    ∀ (fuel : Nat) (listed : Array Bool) (a : Act) (w : World), listed.size = ops.size → listed.toList.count false ≤ fuel → RegAt ops a0 w0 V (fun j => listed[j]? = some true) a w → wpAny P .any ops Q fuel listed a w := by
  obtain ⟨k1, k2, k3⟩ := regionOk_spec hok
  have ready_iff : ∀ (listed : Array Bool) (i : Nat), listed.size = ops.size → i ∈ Region.ready .any ops listed → listed[i]? = some false ∧ ∃ o, ops[i]? = some o ∧ ∀ e ∈ o.after, Region.binds .any e = true → listed[e.on]? = some true := by
    intro listed i hz hi
    unfold Region.ready at hi
    obtain ⟨h1, h2⟩ := List.mem_filter.1 hi
    have hlt := List.mem_range.1 h1
    obtain ⟨h3, h4⟩ := Bool.and_eq_true_iff.1 h2
    have ho : ops[i]? = some ops[i] := Array.getElem?_eq_getElem hlt
    refine ⟨?_, ops[i], ho, fun e he hb => ?_⟩
    · rw [Array.getElem?_eq_getElem (by omega)]
      simp [Array.getD, hz, hlt] at h3
      rw [h3]
    · rw [ho] at h4
      have h5 := Array.all_eq_true_iff_forall_mem.1 (show (ops[i].after.all fun e => !Region.binds .any e || listed.getD e.on false) = true from h4) e he
      rw [hb] at h5
      simp only [Bool.not_true, Bool.false_or] at h5
      rw [Array.getD_eq_getD_getElem?] at h5
      cases hx : listed[e.on]? with
      | none => rw [hx] at h5; simp at h5
      | some b => rw [hx] at h5; simp at h5; rw [h5]
  have all_done : ∀ listed : Array Bool, listed.size = ops.size → Region.ready .any ops listed = [] → ∀ i, i < ops.size → listed[i]? = some true := by
    intro listed hz hr i
    induction i using Nat.strongRecOn with
    | ind i ih =>
      intro hi
      have hli : listed[i]? = some listed[i] := Array.getElem?_eq_getElem (by omega)
      by_cases hb : listed[i] = true
      · rw [hli, hb]
      · exfalso
        have : i ∈ Region.ready .any ops listed := by
          unfold Region.ready
          refine List.mem_filter.2 ⟨List.mem_range.2 hi, ?_⟩
          have hb' : listed[i] = false := by simpa using hb
          have ho : ops[i]? = some ops[i] := Array.getElem?_eq_getElem hi
          refine Bool.and_eq_true_iff.2 ⟨by simp [Array.getD, hz, hi, hb'], ?_⟩
          rw [ho]
          show (ops[i].after.all _) = true
          refine Array.all_eq_true_iff_forall_mem.2 fun e he => ?_
          by_cases hbd : Region.binds .any e = true
          · have hlt := k3 i ops[i] e ho he hbd
            have := ih e.on hlt (by omega)
            rw [Array.getD_eq_getD_getElem?, this]
            simp
          · simp [hbd]
        rw [hr] at this
        cases this
  intro fuel
  induction fuel with
  | zero =>
    intro listed a w hz hc h
    have hall : ∀ i, i < ops.size → listed[i]? = some true := fun i hi => by
      have hli : listed[i]? = some listed[i] := Array.getElem?_eq_getElem (by omega)
      by_cases hb : listed[i] = true
      · rw [hli, hb]
      · exfalso
        have hb' : listed[i] = false := by simpa using hb
        have : false ∈ listed.toList := by
          rw [← hb']; simp
        have := List.count_pos_iff.2 this
        omega
    refine ⟨?_, fin a w ⟨h.bel, h.defers, h.size, h.out, fun j d hj hd => h.got j d (hall j hj) hd⟩⟩
    apply List.eq_nil_iff_forall_not_mem.2
    intro i hi
    obtain ⟨h1, o, ho, _⟩ := ready_iff listed i hz hi
    rw [hall i (Array.getElem?_eq_some_iff.1 ho).1] at h1
    cases h1
  | succ fuel ih =>
    intro listed a w hz hc h
    refine ⟨fun hr => fin a w ⟨h.bel, h.defers, h.size, h.out, fun j d hj hd => h.got j d (all_done listed hz hr j hj) hd⟩, fun i hi => ?_⟩
    obtain ⟨h1, o, ho, hdep⟩ := ready_iff listed i hz hi
    have hc' : (listed.setIfInBounds i true).toList.count false ≤ fuel := by
      have := count_set_true listed.toList i (by simpa using h1)
      simp only [Array.toList_setIfInBounds]
      omega
    have hat : RegAt ops a0 w0 V (fun j => depB o j = true) a w := ⟨h.bel, h.defers, h.size, h.out, fun j d hj hd => by
      unfold depB at hj
      obtain ⟨e, he, hb⟩ := Array.any_eq_true'.1 hj
      simp only [Bool.and_eq_true, beq_iff_eq] at hb
      exact h.got j d (by rw [← hb.2]; exact hdep e he hb.1) hd⟩
    refine wpOp_step ho fun K hK => ?_
    refine step i o ho a w hat K fun v w' hb hv => hK _ _ (ih _ _ _ (by simpa using hz) hc' ?_)
    have hdi : dstAt ops i = o.dst := by unfold dstAt; rw [ho]; rfl
    have hput : ∀ d, o.dst = some d → d < a.tmps.size := fun d hd => by rw [h.size]; exact k1 i o d ho hd
    refine ⟨h.bel.trans (hb.mono h.bel.size), ?_, ?_, fun t ht => ?_, fun j d hj hd => ?_⟩
    · rw [← h.defers]; unfold Act.put; cases o.dst <;> rfl
    · rw [← h.size]; unfold Act.put; cases o.dst <;> simp
    · rw [← h.out t ht]
      have hne : o.dst ≠ some t := by
        have := Array.all_eq_true_iff_forall_mem.1 ht o (Array.mem_of_getElem? ho)
        simpa using this
      unfold Act.put
      cases hd : o.dst with
      | none => rfl
      | some d =>
        have : d ≠ t := fun e => hne (by rw [hd, e])
        simp [Array.getElem?_setIfInBounds, this]
    · by_cases hji : j = i
      · subst hji
        have hd' : o.dst = some d := by rw [← hdi, hd]
        refine ⟨v, ?_, hv⟩
        unfold Act.put
        rw [hd']
        simp [Array.getElem?_setIfInBounds, hput d hd']
      · rw [Array.getElem?_setIfInBounds_ne (fun e => hji e.symm)] at hj
        obtain ⟨u, hu, hvu⟩ := h.got j d hj hd
        refine ⟨u, ?_, stab j u w w' hb hvu⟩
        rw [← hu]
        unfold Act.put
        cases hd' : o.dst with
        | none => rfl
        | some d' =>
          have : d' ≠ d := fun e => hji (k2 j i d hd (by rw [hdi, hd', e]))
          simp [Array.getElem?_setIfInBounds, this]

/-- The steps of all operations, one by one. -/
def stepsFrom (P : Program) (ops : Array Oper) (Q : Exit → Act → World → Prop) (a0 : Act) (w0 : World) (V : Nat → Value → World → Prop) (k : Nat) (l : List Oper) : Prop := ∀ i o, l[i]? = some o → StepOk P ops Q a0 w0 V (k + i) o
theorem steps_nil {k : Nat} : stepsFrom P ops Q a0 w0 V k [] := fun i o h => by simp at h
theorem steps_cons {k k' : Nat} {o : Oper} {l : List Oper} (hk : k' = k + 1) (h : StepOk P ops Q a0 w0 V k o) (t : stepsFrom P ops Q a0 w0 V k' l) : stepsFrom P ops Q a0 w0 V k (o :: l) := fun i o' h' => by
  cases i with
  | zero => simp at h'; subst h'; exact h
  | succ i => subst hk; have := t i o' (by simpa using h'); rwa [Nat.add_assoc, Nat.add_comm 1 i] at this

theorem wp_region_inv {id : Nat} {l : List Oper} {a : Act} {w : World} (V : Nat → Value → World → Prop) (hm : P.follows .mixedOrders = true) (hok : regionOk l.toArray a.tmps.size = true)
    (stab : ∀ i v w w', Below w.heap.size w w' → V i v w → V i v w')
    (step : stepsFrom P l.toArray Q a w.drew V 0 l) (fin : ∀ a' w', RegAt l.toArray a w.drew V (fun j => j < l.toArray.size) a' w' → Q .normal a' w') : (Code.region id l.toArray true).wp P Q a w :=
  wp_region_any hm (reg_any (w0 := w.drew) hok stab (fun i o h => by have := step i o (by simpa using h); rwa [Nat.zero_add] at this) fin _ _ a w.drew (by simp) (by simp) ⟨Below.refl _ _, rfl, rfl, fun _ _ => rfl, fun j d hj _ => by
    rw [Array.getElem?_replicate] at hj; split at hj <;> cases hj⟩)
end
theorem belowThen {w a b : World} (h : Below w.heap.size w a) (k : Below a.heap.size a b) : Below w.heap.size w b := h.trans (k.mono h.size)
theorem belowNew {w a : World} (h : Below w.heap.size w a) (o : Obj) : Below w.heap.size w (a.alloc o) := h.alloc h.size _
theorem belowDrew {w a : World} (h : Below w.heap.size w a) : Below w.heap.size w a.drew := h.drew
theorem belowUndrew {w w' : World} (h : Below w.drew.heap.size w.drew w') : Below w.heap.size w w' := ⟨h.os, h.tape, h.output, h.size, h.block⟩
theorem end_ret {P : Program} {fn : Func} {R : Ending → World → Prop} {a : Act} {w : World} {t : Tmp} {v : Value} (h : fn.results = #[.tmp t]) (e : a.tmps.getD t undef = v) (hd : a.defers = []) (hR : R (.returned v) w) : bodyPost P fn R .ret a w :=
  bodyPost_ret (by rw [results_tmp h, e]) hd hR
theorem belowSame (w : World) : Below w.heap.size w w := Below.refl _ _
theorem blkAt {w : World} {g : Nat} {t : TypeId} {cs : Array Value} (h : g = w.heap.size) : Blk (w.alloc (.cells cs t)) g t cs := by subst h; exact Blk.new _ _ _
theorem belowOfEq {w w' : World} (h : w = w') : Below w.heap.size w w' := h ▸ Below.refl _ _
def Stab (p : Value → World → Prop) : Prop := ∀ v w w', Below w.heap.size w w' → p v w → p v w'
def SliceAt (t : TypeId) (cs : Array Value) (v : Value) (w : World) : Prop := ∃ g, v = .slice (some ⟨g, 0, none⟩) cs.size cs.size ∧ Blk w g t cs
theorem slice_at {t : TypeId} {cs : Array Value} {v : Value} {w : World} (h : SliceAt t cs v w) : ∃ g, v = .slice (some ⟨g, 0, none⟩) cs.size cs.size ∧ Blk w g t cs := h
theorem stab_eq (c : Value) : Stab (fun v _ => v = c) := fun _ _ _ _ h => h
theorem stab_slice (t : TypeId) (cs : Array Value) : Stab (fun v w => SliceAt t cs v w) := fun v w w' hb h => by
  obtain ⟨g, e, hk⟩ := h
  exact ⟨g, e, hk.below hb hk.lt⟩
def AllStab (l : List (Value → World → Prop)) : Prop := ∀ i, Stab (l.getD i fun _ _ => True)
theorem allStab_nil : AllStab [] := fun i v w w' _ h => h
theorem allStab_cons {p : Value → World → Prop} {l : List (Value → World → Prop)} (h : Stab p) (t : AllStab l) : AllStab (p :: l) := fun i => by
  cases i with
  | zero => exact h
  | succ i => exact t i
theorem stab_list {l : List (Value → World → Prop)} (h : AllStab l) : ∀ i v w w', Below w.heap.size w w' → l.getD i (fun _ _ => True) v w → l.getD i (fun _ _ => True) v w' := fun i v w w' hb hv => h i v w w' hb hv
end Go.Proofs.YtakilnpfhljgfaaGreat

/- super: in, Valid, Size, LogAt, BlockAt. No condition. -/
namespace Go.Proofs.YtakilnpfhljgfaaGreat.SU
set_option maxRecDepth 100000
open Go.RowKit
set_option linter.unusedVariables false
set_option linter.unusedSimpArgs false

structure Sh where
  n : Int
  b : Int
  l : Int
  c : Int
  e : Int
def sagg (s : Sh) : Value := .agg #[.int .i64 s.n, .int .i64 s.b, .int .i64 s.l, .int .i64 s.c, .int .i64 s.e]
abbrev scells (s : Sh) : Array Value := #[.int .i64 s.n, .int .i64 s.b, .int .i64 s.l, .int .i64 s.c, .int .i64 s.e]
abbrev TSh : TypeId := 28
abbrev TLa : TypeId := 30
def inB (n a b : Int) : Bool := decide (a ≤ n) && decide (n ≤ b)
theorem in_any (n a b : Int) (w : World) : Calls Tryz.prog 72 #[.int .i64 n, .int .i64 a, .int .i64 b] w fun e w' => e = .returned (.bool (inB n a b)) ∧ w' = w := by
  unfold inB
  by_cases h : a ≤ n
  · have c1 : decide (a ≤ n) = true := by simpa using h
    clear h
    go_enter Tryz.func72, Tryz.ntmps72
    go_wp2
    exact end_ret (t := 6) (v := .bool (decide (n ≤ b))) (by kernel_rfl) rfl rfl ⟨by rw [c1]; rfl, rfl⟩
  · have c1 : decide (a ≤ n) = false := by simpa using h
    clear h
    go_enter Tryz.func72, Tryz.ntmps72
    go_wp2
    exact end_ret (t := 6) (v := .bool false) (by kernel_rfl) rfl rfl ⟨by rw [c1]; rfl, rfl⟩
def validB (s : Sh) : Bool := inB s.n 1 16 && inB s.b 1 4096 && inB s.l 8 256 && inB s.c 2 1000 && inB s.e 32 1000
theorem valid_any (s : Sh) (w : World) : Calls Tryz.prog 55 #[sagg s] w fun e w' => e = .returned (.bool (validB s)) ∧ Below w.heap.size w w' := by
  unfold validB sagg
  by_cases h0 : inB s.n 1 16 = false
  · have R : (inB s.n 1 16 && inB s.b 1 4096 && inB s.l 8 256 && inB s.c 2 1000 && inB s.e 32 1000) = false := by rw [h0]; rfl
    rw [R]
    clear R
    go_enter Tryz.func55, Tryz.ntmps55
    go_wp2_with (go_at_call 72; refine (in_any _ _ _ _).mono ?_; rintro x w1 ⟨rfl, rfl⟩)
    exact end_ret (t := 2) (v := .bool false) (by kernel_rfl) rfl rfl ⟨rfl, belowNew (belowSame w) _⟩
  replace h0 : inB s.n 1 16 = true := by simpa using h0
  by_cases h1 : inB s.b 1 4096 = false
  · have R : (inB s.n 1 16 && inB s.b 1 4096 && inB s.l 8 256 && inB s.c 2 1000 && inB s.e 32 1000) = false := by rw [h0, h1]; rfl
    rw [R]
    clear R
    go_enter Tryz.func55, Tryz.ntmps55
    go_wp2_with (go_at_call 72; refine (in_any _ _ _ _).mono ?_; rintro x w1 ⟨rfl, rfl⟩)
    exact end_ret (t := 2) (v := .bool false) (by kernel_rfl) rfl rfl ⟨rfl, belowNew (belowSame w) _⟩
  replace h1 : inB s.b 1 4096 = true := by simpa using h1
  by_cases h2 : inB s.l 8 256 = false
  · have R : (inB s.n 1 16 && inB s.b 1 4096 && inB s.l 8 256 && inB s.c 2 1000 && inB s.e 32 1000) = false := by rw [h0, h1, h2]; rfl
    rw [R]
    clear R
    go_enter Tryz.func55, Tryz.ntmps55
    go_wp2_with (go_at_call 72; refine (in_any _ _ _ _).mono ?_; rintro x w1 ⟨rfl, rfl⟩)
    exact end_ret (t := 2) (v := .bool false) (by kernel_rfl) rfl rfl ⟨rfl, belowNew (belowSame w) _⟩
  replace h2 : inB s.l 8 256 = true := by simpa using h2
  by_cases h3 : inB s.c 2 1000 = false
  · have R : (inB s.n 1 16 && inB s.b 1 4096 && inB s.l 8 256 && inB s.c 2 1000 && inB s.e 32 1000) = false := by rw [h0, h1, h2, h3]; rfl
    rw [R]
    clear R
    go_enter Tryz.func55, Tryz.ntmps55
    go_wp2_with (go_at_call 72; refine (in_any _ _ _ _).mono ?_; rintro x w1 ⟨rfl, rfl⟩)
    exact end_ret (t := 2) (v := .bool false) (by kernel_rfl) rfl rfl ⟨rfl, belowNew (belowSame w) _⟩
  replace h3 : inB s.c 2 1000 = true := by simpa using h3
  by_cases h4 : inB s.e 32 1000 = false
  · have R : (inB s.n 1 16 && inB s.b 1 4096 && inB s.l 8 256 && inB s.c 2 1000 && inB s.e 32 1000) = false := by rw [h0, h1, h2, h3, h4]; rfl
    rw [R]
    clear R
    go_enter Tryz.func55, Tryz.ntmps55
    go_wp2_with (go_at_call 72; refine (in_any _ _ _ _).mono ?_; rintro x w1 ⟨rfl, rfl⟩)
    exact end_ret (t := 2) (v := .bool false) (by kernel_rfl) rfl rfl ⟨rfl, belowNew (belowSame w) _⟩
  replace h4 : inB s.e 32 1000 = true := by simpa using h4
  have R : (inB s.n 1 16 && inB s.b 1 4096 && inB s.l 8 256 && inB s.c 2 1000 && inB s.e 32 1000) = true := by rw [h0, h1, h2, h3, h4]; rfl
  rw [R]
  clear R
  go_enter Tryz.func55, Tryz.ntmps55
  go_wp2_with (go_at_call 72; refine (in_any _ _ _ _).mono ?_; rintro x w1 ⟨rfl, rfl⟩)
  exact end_ret (t := 2) (v := .bool true) (by kernel_rfl) rfl rfl ⟨rfl, belowNew (belowSame w) _⟩
structure Good (s : Sh) : Prop where
  n : 1 ≤ s.n ∧ s.n ≤ 16
  b : 1 ≤ s.b ∧ s.b ≤ 4096
  l : 8 ≤ s.l ∧ s.l ≤ 256
  c : 2 ≤ s.c ∧ s.c ≤ 1000
  e : 32 ≤ s.e ∧ s.e ≤ 1000
theorem valid_iff (s : Sh) : validB s = true ↔ Good s := by
  unfold validB inB
  simp only [Bool.and_eq_true, decide_eq_true_eq]
  constructor
  · rintro ⟨⟨⟨⟨a, b⟩, c⟩, d⟩, e⟩; exact ⟨a, b, c, d, e⟩
  · rintro ⟨a, b, c, d, e⟩; exact ⟨⟨⟨⟨a, b⟩, c⟩, d⟩, e⟩
theorem mul_le (a b : Int) (ha : 1 ≤ a ∧ a ≤ 16) (hb : 8 ≤ b ∧ b ≤ 256) : 8 ≤ a * b ∧ a * b ≤ 4096 := by
  have h1 : 0 ≤ (a - 1) * (b - 8) := Int.mul_nonneg (by omega) (by omega)
  have h2 : 0 ≤ (16 - a) * b := Int.mul_nonneg (by omega) (by omega)
  have e1 : (a - 1) * (b - 8) = a * b - 8 * a - b + 8 := by rw [Int.sub_mul, Int.mul_sub, Int.mul_sub]; omega
  have e2 : (16 - a) * b = 16 * b - a * b := by rw [Int.sub_mul]
  omega
def sizeI (s : Sh) : Int := 1 + s.n * s.l + 2 * s.b
theorem size_ok (s : Sh) (h : Good s) (w : World) : Calls Tryz.prog 57 #[sagg s] w fun e w' => e = .returned (.int .i64 (sizeI s)) ∧ Below w.heap.size w w' := by
  have hv := (valid_iff s).2 h
  have hm := mul_le s.n s.l h.n h.l
  have hb := h.b
  have kv := fun W => valid_any s W
  rw [hv] at kv
  unfold sagg at *
  unfold sizeI
  obtain ⟨M, hM⟩ : ∃ M, s.n * s.l = M := ⟨_, rfl⟩
  rw [hM] at hm ⊢
  have e1 : IntKind.i64.wrap (s.n * s.l) = M := by rw [hM]; exact IntWalk.i64_in _ (by omega)
  have e2 : IntKind.i64.wrap (1 + M) = 1 + M := IntWalk.i64_in _ (by omega)
  have e3 : IntKind.i64.wrap (2 * s.b) = 2 * s.b := IntWalk.i64_in _ (by omega)
  have e4 : IntKind.i64.wrap (1 + M + 2 * s.b) = 1 + M + 2 * s.b := IntWalk.i64_in _ (by omega)
  have hbn := Blk.new w TSh (scells s)
  have hb0 := (Below.refl _ w).alloc (Nat.le_refl _) (.cells (scells s) TSh)
  have HBN := Lib.hid hbn
  have HB0 := Lib.hid hb0
  clear hbn hb0 hM h hv
  go_enter Tryz.func57, Tryz.ntmps57
  go_wp2_with (go_at_call 55; refine (kv _).mono ?_; rintro x w1 ⟨rfl, hb1⟩; have bk := HBN.out.below hb1 HBN.out.lt; have c0 : w1.cell? ⟨w.heap.size, 0, none⟩ = some (.int .i64 s.n) := bk.cell 0; have c1 : w1.cell? ⟨w.heap.size, 1, none⟩ = some (.int .i64 s.b) := bk.cell 1; have c2 : w1.cell? ⟨w.heap.size, 2, none⟩ = some (.int .i64 s.l) := bk.cell 2; have HB1 := Lib.hid (HB0.out.trans (hb1.mono HB0.out.size)); clear bk hb1)
  exact end_ret (t := 2) (v := .int .i64 (1 + M + 2 * s.b)) (by kernel_rfl) rfl rfl ⟨rfl, HB1.out⟩
def logI (s : Sh) (a : Int) : Int := 1 + (a - 1) * s.l
theorem log_ok (s : Sh) (h : Good s) (a : Int) (ha : 1 ≤ a ∧ a ≤ s.n) (w : World) : Calls Tryz.prog 36 #[sagg s, .int .i64 a] w fun e w' => e = .returned (.tuple #[.int .i64 (logI s a), .int .i64 0]) ∧ Below w.heap.size w w' := by
  have hv := (valid_iff s).2 h
  have hn := h.n
  have hl := h.l
  have hm : 0 ≤ (a - 1) * s.l ∧ (a - 1) * s.l ≤ 4096 := by
    have h1 : 0 ≤ (a - 1) * s.l := Int.mul_nonneg (by omega) (by omega)
    have h2 : 0 ≤ (s.n - a) * s.l := Int.mul_nonneg (by omega) (by omega)
    have h3 := mul_le s.n s.l hn hl
    have e1 : (s.n - a) * s.l = s.n * s.l - a * s.l := by rw [Int.sub_mul]
    have e2 : (a - 1) * s.l = a * s.l - s.l := by rw [Int.sub_mul]; omega
    omega
  have kv := fun W => valid_any s W
  rw [hv] at kv
  have ki := fun W => in_any a 1 s.n W
  rw [show inB a 1 s.n = true by unfold inB; simp; omega] at ki
  unfold sagg at *
  unfold logI
  obtain ⟨M, hM⟩ : ∃ M, (a - 1) * s.l = M := ⟨_, rfl⟩
  rw [hM] at hm ⊢
  have e0 : IntKind.i64.wrap (a - 1) = a - 1 := IntWalk.i64_in _ (by omega)
  have e1 : IntKind.i64.wrap ((a - 1) * s.l) = M := by rw [hM]; exact IntWalk.i64_in _ (by omega)
  have e2 : IntKind.i64.wrap (1 + M) = 1 + M := IntWalk.i64_in _ (by omega)
  have hbn := Blk.new w TLa (scells s)
  have hb0 := (Below.refl _ w).alloc (Nat.le_refl _) (.cells (scells s) TLa)
  have HBN := Lib.hid hbn
  have HB0 := Lib.hid hb0
  clear hbn hb0 hM h hv
  go_enter Tryz.func36, Tryz.ntmps36
  go_wp2_with (first
    | (go_at_call 55; refine (kv _).mono ?_; rintro x w1 ⟨rfl, hb1⟩; have bk := HBN.out.below hb1 HBN.out.lt; have c0 : w1.cell? ⟨w.heap.size, 0, none⟩ = some (.int .i64 s.n) := bk.cell 0; have c1 : w1.cell? ⟨w.heap.size, 1, none⟩ = some (.int .i64 s.b) := bk.cell 1; have c2 : w1.cell? ⟨w.heap.size, 2, none⟩ = some (.int .i64 s.l) := bk.cell 2; have HB1 := Lib.hid (HB0.out.trans (hb1.mono HB0.out.size)); clear bk hb1)
    | (go_at_call 72; refine (ki _).mono ?_; rintro x w2 ⟨rfl, rfl⟩))
  go_ret2
  exact ⟨rfl, HB1.out⟩
def blockI (s : Sh) (x : Int) : Int := 1 + s.n * s.l + 2 * x
end Go.Proofs.YtakilnpfhljgfaaGreat.SU

/- More words for memory: a call that turns cells of one block. No condition. -/
namespace Go.Proofs.YtakilnpfhljgfaaGreat
set_option maxRecDepth 100000
open Go.RowKit
set_option linter.unusedVariables false

/-- One block alone. -/
def only (g : Nat) : Nat → Prop := fun k => k = g
theorem Keeps.cell_ {a w : World} {g : Nat} (h : Keeps (only g) a w) (i : Nat) (v : Value) : Keeps (only g) a (w.setCell ⟨g, i, none⟩ v) := Keeps.setCell (S := only g) (p := ⟨g, i, none⟩) h (fun _ => rfl) v
theorem keep1 (w : World) (g i : Nat) (v : Value) : Keeps (only g) w (w.setCell ⟨g, i, none⟩ v) := (Keeps.refl _ w).cell_ i v
theorem keep2 (w : World) (g i j : Nat) (v u : Value) : Keeps (only g) w ((w.setCell ⟨g, i, none⟩ v).setCell ⟨g, j, none⟩ u) := (keep1 w g i v).cell_ j u
theorem none_apart (F : Nat → Prop) : Apart F (fun _ => False) := fun _ _ h => h
/-- A cell of a row that a call made. -/
theorem ownCell {w : World} {B : Nat} {e : TypeId} {a : Option Addr} {n c : Nat} {xs : List Value} (h : w.ownsRow B e 1 (.slice a n c) n xs) {k : Nat} (hk : k < n) :
    ∃ b x, a = some ⟨b, 0, none⟩ ∧ xs[k]? = some x ∧ w.cell? ⟨b, k, none⟩ = some x ∧ B ≤ b := by
  obtain ⟨b, cap, hv, _, _⟩ := h.form (by omega)
  injection hv with hv1 hv2 hv3
  subst hv1
  have hl : xs.length = n := by have := h.1; omega
  have hx : xs[k]? = some xs[k] := List.getElem?_eq_getElem (by omega)
  refine ⟨b, xs[k], rfl, hx, ?_, (h.lt b rfl).1⟩
  rw [← h.cells (g := b) rfl k _ hx]; congr 1; unfold Addr.add; split <;> simp_all
end Go.Proofs.YtakilnpfhljgfaaGreat

/- The check sum over bytes, as a fold. Plain laws, no program. No condition. -/
namespace Go.Proofs.YtakilnpfhljgfaaGreat
set_option maxRecDepth 100000
open Go.RowKit
set_option linter.unusedVariables false

def stepI (x : Int) : Int := if x % 2 = 1 then bits .xor .u32 (x / 2) 3988292384 else x / 2
def stepsI : Nat → Int → Int
  | 0, x => x
  | n + 1, x => stepI (stepsI n x)
def crcB (x : Int) (b : UInt8) : Int := stepsI 8 (bits .xor .u32 x (b.toNat : Int))
def crcL (x : Int) (l : List UInt8) : Int := l.foldl crcB x
def U32 (x : Int) : Prop := 0 ≤ x ∧ x ≤ 4294967295
theorem bits_u32 (op : BinOp) (x y : Int) (h : op = .xor ∨ op = .and ∨ op = .or) : U32 (bits op .u32 x y) := by
  have hw : ∀ n : Int, U32 (IntKind.u32.wrap n) := by
    intro n
    unfold U32
    simp only [IntKind.wrap, IntKind.bits, IntKind.signed]
    simp
    omega
  rcases h with rfl | rfl | rfl <;> exact hw _
theorem stepI_r {x : Int} (h : U32 x) : U32 (stepI x) := by
  unfold stepI
  split
  · exact bits_u32 _ _ _ (.inl rfl)
  · unfold U32 at *; omega
theorem stepsI_r (n : Nat) {x : Int} (h : U32 x) : U32 (stepsI n x) := by
  induction n with
  | zero => exact h
  | succ n ih => exact stepI_r ih
theorem crcB_r (x : Int) (b : UInt8) : U32 (crcB x b) := stepsI_r 8 (bits_u32 _ _ _ (.inl rfl))
theorem crcL_r {x : Int} (h : U32 x) (l : List UInt8) : U32 (crcL x l) := by
  induction l generalizing x with
  | nil => exact h
  | cons b l ih => exact ih (crcB_r x b)
theorem crcL_snoc (x : Int) (l : List UInt8) (b : UInt8) : crcL x (l ++ [b]) = crcB (crcL x l) b := by unfold crcL; simp
theorem crcL_app (x : Int) (l r : List UInt8) : crcL x (l ++ r) = crcL (crcL x l) r := by unfold crcL; simp
def sumL (l : List UInt8) : Int := 4294967295 - crcL 4294967295 l
theorem take_next (s : ByteArray) (k : Nat) (h : k < s.size) : s.data.toList.take (k + 1) = s.data.toList.take k ++ [s[k]] := by
  rw [List.take_succ_eq_append_getElem (by simpa using h)]; rfl
end Go.Proofs.YtakilnpfhljgfaaGreat

/- The writer of wire: the calls that sum.four makes. No condition. -/
namespace Go.Proofs.YtakilnpfhljgfaaGreat.WI
set_option maxRecDepth 100000
open Go.RowKit
set_option linter.unusedVariables false

theorem own_blk_ (a : Option Addr) (n c : Nat) : (Value.slice a n c).ownBlock = (Value.slice a 0 0).ownBlock := by cases a <;> rfl
theorem wrong4 (v : Int) (h0 : 0 ≤ v) (h1 : v ≤ 4294967295) (w : World) : Calls Tryz.prog 110 #[.int .u64 v, .int .i64 4] w fun e w' => e = .returned (.int .i64 0) ∧ w = w' := by
  have hs : v / 4294967296 = 0 := by omega
  go_enter Tryz.func110, Tryz.ntmps110
  go_wp2
  go_ret
  exact ⟨rfl, rfl⟩
theorem fails_ok {w : World} {g : Nat} {a : Option Addr} {n c : Nat} (hb : Blk w g 141 #[.slice a n c, .int .i64 0]) : Calls Tryz.prog 114 #[.pointer (some ⟨g, 0, none⟩), .int .i64 0] w fun e w' => e = .returned (.bool false) ∧ Blk w' g 141 #[.slice a n c, .int .i64 0] ∧ Keeps (only g) w w' := by
  have c1 : w.cell? ⟨g, 1, none⟩ = some (.int .i64 0) := hb.cell 1
  have f1 := hb.frozen 1
  have B := hb.set_ 1 (.int .i64 0)
  have K := keep1 w g 1 (.int .i64 0)
  have HB := Lib.hid B
  have HK := Lib.hid K
  clear B K
  go_enter Tryz.func114, Tryz.ntmps114
  go_wp2
  go_ret
  exact ⟨rfl, HB.out, HK.out⟩
def byteV (b : Int) : Value := .int .u8 b
/-- The first k bytes of a number, the lowest first. -/
def lowB (v : Int) : Nat → List Int
  | 0 => []
  | k + 1 => v % 256 :: lowB (v / 256) k
theorem lowB_len (v : Int) (k : Nat) : (lowB v k).length = k := by
  induction k generalizing v with
  | zero => rfl
  | succ k ih => simp [lowB, ih]
def shr8 (v : Int) : Nat → Int
  | 0 => v
  | k + 1 => shr8 (v / 256) k
theorem shr8_out (v : Int) (k : Nat) : shr8 v (k + 1) = shr8 v k / 256 := by
  induction k generalizing v with
  | zero => rfl
  | succ k ih => exact ih (v / 256)
theorem lowB_snoc (v : Int) (k : Nat) : lowB v (k + 1) = lowB v k ++ [shr8 v k % 256] := by
  induction k generalizing v with
  | zero => rfl
  | succ k ih => show v % 256 :: lowB (v / 256) (k + 1) = _; rw [ih]; rfl
theorem shr8_b {v : Int} (h0 : 0 ≤ v) (h1 : v ≤ 18446744073709551615) (k : Nat) : 0 ≤ shr8 v k ∧ shr8 v k ≤ 18446744073709551615 := by
  induction k with
  | zero => exact ⟨h0, h1⟩
  | succ k ih => rw [shr8_out]; omega
theorem infoB : (Tryz.prog.info? 5).map (fun i => (i.zero, i.size, i.bytes)) = some (some (.int .u8 0), 1, 1) := by kernel_rfl

/-- The writer in block g holds the bytes bs; nothing but it and new blocks was turned since W. -/
def Wr (W : World) (B g : Nat) (bs : List Int) (w : World) : Prop :=
  ∃ a c, Blk w g 141 #[.slice a bs.length c, .int .i64 0] ∧ w.ownsRow B 5 1 (.slice a bs.length c) bs.length (bs.map byteV) ∧ Below B W w ∧ B ≤ g

theorem Wr.push {W w w2 : World} {B g : Nat} {bs : List Int} {a a2 : Option Addr} {c c2 : Nat} {x : Int} (hb : Blk w g 141 #[.slice a bs.length c, .int .i64 0]) (ho : w.ownsRow B 5 1 (.slice a bs.length c) bs.length (bs.map byteV)) (hB : Below B W w) (hBg : B ≤ g)
    (ho2 : w2.ownsRow B 5 1 (.slice a2 (bs.length + 1) c2) (bs.length + 1) (bs.map byteV ++ [.int .u8 x])) (hg : (w.alloc (.cells #[.int .u8 x] 5)).grownBy w2 (Value.slice a 0 0).ownBlock) :
    Blk w2 g 141 #[.slice a bs.length c, .int .i64 0] ∧ Wr W B g (bs ++ [x]) (w2.setCell ⟨g, 0, none⟩ (.slice a2 (bs.length + 1) c2)) := by
  have hne := own_ne ho hb (by decide)
  rw [own_blk_] at hne
  have hb2 : Blk w2 g 141 #[.slice a bs.length c, .int .i64 0] := (hb.alloc _).grown hg (fun e => hne e.symm)
  have hbl : B ≤ w.heap.size := by have := hb.lt; omega
  have hlow : ∀ k, (Value.slice a 0 0).ownBlock = some k → B ≤ k := fun k hk => (ho.lt k ((own_blk_ _ _ _).trans hk)).1
  have hB2 : Below B W w2 := (hB.alloc hbl _).trans ⟨hg.os, hg.tape, hg.output, hg.size, fun k hk => hg.block k (by simp; omega) (fun e => by have := hlow k e.symm; omega)⟩
  refine ⟨hb2, a2, c2, ?_, ?_, ?_, hBg⟩
  · simpa using hb2.set_ 0 (.slice a2 (bs.length + 1) c2)
  · have := own_keeps ho2 (keep1 w2 g 0 (.slice a2 (bs.length + 1) c2)) (fun k h1 h2 => own_ne ho2 hb2 (by decide) (by rw [h1, show k = g from h2]))
    simpa [byteV] using this
  · exact hB2.setCell hBg _

set_option maxRecDepth 100000 in
set_option maxHeartbeats 800000 in
theorem num4 {W w : World} {B g : Nat} (h : Wr W B g [] w) (v : Int) (h0 : 0 ≤ v) (h1 : v ≤ 4294967295) :
    Calls Tryz.prog 98 #[.pointer (some ⟨g, 0, none⟩), .int .u64 v, .int .i64 4] w fun e w' => e = .returned (.pointer (some ⟨g, 0, none⟩)) ∧ Wr W B g (lowB v 4) w' := by
  obtain ⟨i0, hi, hz0, hz1, hz2⟩ := info_parts infoB
  have hw := wrong4 v h0 h1 w
  obtain ⟨a, c, hb, ho, hB, hBg⟩ := h
  have hf := fails_ok hb
  go_enter Tryz.func98, Tryz.ntmps98
  go_wp2_with (first
    | (go_at_call 110; refine hw.mono ?_; rintro e w' ⟨rfl, rfl⟩)
    | (go_at_call 114; refine hf.mono ?_; rintro e w2 ⟨rfl, hb2, hk2⟩))
  have h2 : Wr W B g [] w2 := ⟨a, c, hb2, own_keeps ho hk2 (fun k h3 h4 => own_ne ho hb (by decide) (by rw [h3, show k = g from h4])), hk2.after hB (fun k hk => by rw [show k = g from hk]; exact hBg) (by have := hb.lt; omega), hBg⟩
  have H2 := Lib.hid h2
  clear hw hb ho hB hf hb2 hk2 h2
  go_loopw [1, 18] (fun x i wr => ∃ k : Nat, k ≤ 4 ∧ i = .int .i64 (k : Int) ∧ x = .int .u64 (shr8 v k) ∧ Wr W B g (lowB v k) wr) (fun _ i _ => 4 - (intOf i).toNat)
  case atStart => exact ⟨0, by omega, rfl, rfl, H2.out⟩
  case round =>
    obtain ⟨k, hk, rfl, rfl, hwr⟩ := hrel
    clear H2
    by_cases hlt : k < 4
    · obtain ⟨a, c, hb, ho, hB, _⟩ := hwr
      have hll := lowB_len v k
      obtain ⟨n, hn⟩ : ∃ n, (lowB v k).length = n := ⟨_, rfl⟩
      rw [hll] at hn
      subst hn
      have hs8 := shr8_b h0 (by omega) k
      have c0 : wr.cell? ⟨g, 0, none⟩ = some (.slice a (lowB v k).length c) := hb.cell 0
      rw [hll] at c0
      have HW := Lib.hid (show Blk wr g 141 #[.slice a (lowB v k).length c, .int .i64 0] ∧ wr.ownsRow B 5 1 (.slice a (lowB v k).length c) (lowB v k).length ((lowB v k).map byteV) ∧ Below B W wr from ⟨hb, ho, hB⟩)
      rw [hll] at ho
      have ho1 := ho.alloc (.cells #[.int .u8 (shr8 v k % 256)] 5)
      have hBw : B ≤ (wr.alloc (.cells #[.int .u8 (shr8 v k % 256)] 5)).heap.size := by have := hb.lt; simp; omega
      have HS := Lib.hid (lowB_snoc v k)
      have HO := Lib.hid (shr8_out v k)
      have HL := Lib.hid hll
      clear hb ho hB hll
      go_wp2_with (at_builtin; refine wpList_append_lie _ rfl _ _ 84 rfl B 5 i0 _ 1 1 Tryz.underlying84 hi hz0 hz1 hz2 rfl (by decide) a k c ((lowB v k).map byteV) rfl ho1 (some ⟨wr.heap.size, 0, none⟩) 1 1 [.int .u8 (shr8 v k % 256)] rfl (Lies.of_blk (cs := #[.int .u8 (shr8 v k % 256)]) (Blk.new _ _ _)) (by simp [Value.oneCell']) (by unfold maxLen; omega) (by omega) hBw ?_; intro a2 cp2 w2 hown2 hg2 hat2
                   have m2 := Wr.push (x := shr8 v k % 256) (a2 := a2) (c2 := cp2) HW.out.1 HW.out.2.1 HW.out.2.2 hBg (by rw [HL.out]; exact hown2) hg2
                   rw [HL.out, ← HS.out] at m2
                   have M2 := Lib.hid m2
                   have c2 : w2.cell? ⟨g, 0, none⟩ = some (.slice a k c) := m2.1.cell 0
                   have f2 := m2.1.frozen 0
                   clear hown2 hg2 hat2 ho1 m2 c0)
      go_roundw
      case rel => exact ⟨k + 1, by omega, by go_num, by rw [HO.out], M2.out.2⟩
      case measure => simp [intOf]; omega
    · obtain rfl : k = 4 := by omega
      have H := Lib.hid hwr
      clear hwr
      go_wp2
      go_ret
      exact ⟨rfl, H.out⟩
end Go.Proofs.YtakilnpfhljgfaaGreat.WI

/- sum.four and the document's four: the four bytes of a number. No condition. -/
namespace Go.Proofs.YtakilnpfhljgfaaGreat.WI
set_option maxRecDepth 100000
open Go.RowKit
set_option linter.unusedVariables false

theorem bytes_any {W w : World} {B g : Nat} {bs : List Int} (h : Wr W B g bs w) (hl : 0 < bs.length) :
    Calls Tryz.prog 99 #[.pointer (some ⟨g, 0, none⟩)] w fun e w' => e = .returned (.tuple #[.string (strOfNums bs), .int .i64 0]) ∧ w = w' := by
  obtain ⟨a, c, hbk, ho, hB, hBg⟩ := h
  obtain ⟨b, x, rfl, _, _, _⟩ := ownCell ho hl
  have c0 : w.cell? ⟨g, 0, none⟩ = some (.slice (some ⟨b, 0, none⟩) bs.length c) := hbk.cell 0
  have c1 : w.cell? ⟨g, 1, none⟩ = some (.int .i64 0) := hbk.cell 1
  have hcv := run_convert_bytes_arg (P := Tryz.prog) w 84 5 Tryz.underlying84 Tryz.underlying5 b 0 bs.length c bs rfl (fun i hi => by
    obtain ⟨b', x', e1, e2, e3, _⟩ := ownCell ho hi
    injection e1 with e1
    injection e1 with e1
    subst e1
    rw [Nat.zero_add, e3]
    rw [List.getElem?_map, List.getElem?_eq_getElem hi] at e2
    injection e2 with e2
    rw [← e2]
    simp [byteV, List.getElem?_eq_getElem hi]) 9 Tryz.underlying9
  go_enter Tryz.func99, Tryz.ntmps99
  go_wp2
  go_ret2
  exact ⟨rfl, rfl⟩

/-- The four bytes of a number. -/
def fourT (v : Int) : ByteArray := strOfNums (lowB v 4)
theorem four_any (v : Int) (h0 : 0 ≤ v) (h1 : v ≤ 4294967295) (w : World) :
    Calls Tryz.prog 102 #[.int .u32 v] w fun e w' => e = .returned (.string (fourT v)) ∧ Below w.heap.size w w' := by
  have h : Wr w w.heap.size w.heap.size [] (w.alloc (.cells #[.slice none 0 0, .int .i64 0] 141)) := ⟨none, 0, Blk.new _ _ _, World.ownsRow_nil _ _ _ _, (Below.refl _ _).alloc (Nat.le_refl _) _, Nat.le_refl _⟩
  have hn := num4 h v h0 h1
  have hm : v % 18446744073709551616 = v := by omega
  go_enter Tryz.func102, Tryz.ntmps102
  go_wp2_with (first
    | (go_at_call 98; refine hn.mono ?_; rintro e w2 ⟨rfl, hw2⟩; have H2 := Lib.hid hw2; clear hw2)
    | (go_at_call 99; refine (bytes_any H2.out (by simp [lowB])).mono ?_; rintro e w' ⟨rfl, rfl⟩))
  go_ret
  obtain ⟨_, _, _, _, hB, _⟩ := H2.out
  exact ⟨rfl, hB⟩
theorem reffour_any (v : Int) (h0 : 0 ≤ v) (h1 : v ≤ 4294967295) (w : World) :
    Calls Tryz.prog 95 #[.int .u32 v] w fun e w' => e = .returned (.string (fourT v)) ∧ Below w.heap.size w w' := by
  have hcv := run_convert_bytes_arg (P := Tryz.prog) (w.alloc (.cells #[.int .u8 (v % 256), .int .u8 (v / 256 % 256), .int .u8 (v / 65536 % 256), .int .u8 (v / 16777216)] 5)) 84 5 Tryz.underlying84 Tryz.underlying5 w.heap.size 0 4 4 [v % 256, v / 256 % 256, v / 65536 % 256, v / 16777216] rfl (fun i hi => by
    rw [(Blk.new w 5 #[.int .u8 (v % 256), .int .u8 (v / 256 % 256), .int .u8 (v / 65536 % 256), .int .u8 (v / 16777216)]).cell, Nat.zero_add]
    have : i = 0 ∨ i = 1 ∨ i = 2 ∨ i = 3 := by omega
    rcases this with rfl | rfl | rfl | rfl <;> rfl) 9 Tryz.underlying9
  have e : lowB v 4 = [v % 256, v / 256 % 256, v / 65536 % 256, v / 16777216] := by
    show [v % 256, v / 256 % 256, v / 256 / 256 % 256, v / 256 / 256 / 256 % 256] = _
    congr 4 <;> omega
  have E := Lib.hid e
  clear e
  go_enter Tryz.func95, Tryz.ntmps95
  go_wp2
  go_ret
  exact ⟨by unfold fourT; rw [E.out]; rfl, (Below.refl _ _).alloc (Nat.le_refl _) _⟩
end Go.Proofs.YtakilnpfhljgfaaGreat.WI

/- wire.Writer: Num of 1, 4 and 8 bytes, onto whatever stands there. No condition. -/
namespace Go.Proofs.YtakilnpfhljgfaaGreat.WI
set_option maxRecDepth 100000
open Go.RowKit
set_option linter.unusedVariables false

theorem wrong1 (v : Int) (h0 : 0 ≤ v) (h1 : v ≤ 255) (w : World) : Calls Tryz.prog 110 #[.int .u64 v, .int .i64 1] w fun e w' => e = .returned (.int .i64 0) ∧ w = w' := by
  have hs : v / 256 = 0 := by omega
  go_enter Tryz.func110, Tryz.ntmps110
  go_wp2
  go_ret
  exact ⟨rfl, rfl⟩
theorem wrong8 (v : Int) (w : World) : Calls Tryz.prog 110 #[.int .u64 v, .int .i64 8] w fun e w' => e = .returned (.int .i64 0) ∧ w = w' := by
  go_enter Tryz.func110, Tryz.ntmps110
  go_wp2
  go_ret
  exact ⟨rfl, rfl⟩
set_option maxRecDepth 100000 in
set_option maxHeartbeats 1600000 in
theorem num_any {W w : World} {B g : Nat} {bs : List Int} (h : Wr W B g bs w) (hbl : bs.length ≤ 1000000) (v : Int) (h0 : 0 ≤ v) (h1 : v ≤ 18446744073709551615) (n : Nat) (hn8 : n ≤ 8)
    (hw : Calls Tryz.prog 110 #[.int .u64 v, .int .i64 (n : Int)] w fun e w' => e = .returned (.int .i64 0) ∧ w = w') :
    Calls Tryz.prog 98 #[.pointer (some ⟨g, 0, none⟩), .int .u64 v, .int .i64 (n : Int)] w fun e w' => e = .returned (.pointer (some ⟨g, 0, none⟩)) ∧ Wr W B g (bs ++ lowB v n) w' := by
  obtain ⟨i0, hi, hz0, hz1, hz2⟩ := info_parts infoB
  obtain ⟨a, c, hb, ho, hB, hBg⟩ := h
  have hf := fails_ok hb
  go_enter Tryz.func98, Tryz.ntmps98
  go_wp2_with (first
    | (go_at_call 110; refine hw.mono ?_; rintro e w' ⟨rfl, rfl⟩)
    | (go_at_call 114; refine hf.mono ?_; rintro e w2 ⟨rfl, hb2, hk2⟩))
  have h2 : Wr W B g (bs ++ lowB v 0) w2 := by
    rw [show bs ++ lowB v 0 = bs from List.append_nil _]
    exact ⟨a, c, hb2, own_keeps ho hk2 (fun k h3 h4 => own_ne ho hb (by decide) (by rw [h3, show k = g from h4])), hk2.after hB (fun k hk => by rw [show k = g from hk]; exact hBg) (by have := hb.lt; omega), hBg⟩
  have H2 := Lib.hid h2
  clear hw hb ho hB hf hb2 hk2 h2
  go_loopw [1, 18] (fun x i wr => ∃ k : Nat, k ≤ n ∧ i = .int .i64 (k : Int) ∧ x = .int .u64 (shr8 v k) ∧ Hid (Wr W B g (bs ++ lowB v k) wr)) (fun _ i _ => n - (intOf i).toNat)
  case atStart => exact ⟨0, by omega, rfl, rfl, H2⟩
  case round =>
    obtain ⟨k, hk, rfl, rfl, hwr⟩ := hrel
    clear H2
    by_cases hlt : k < n
    · obtain ⟨a, c, hb, ho, hB, _⟩ := hwr.out
      have hs8 := shr8_b h0 (by omega) k
      have hsn : (bs ++ lowB v k) ++ [shr8 v k % 256] = bs ++ lowB v (k + 1) := by rw [lowB_snoc, List.append_assoc]
      have HS := Lib.hid hsn
      have hll : (bs ++ lowB v k).length ≤ 1000008 := by rw [List.length_append, lowB_len]; omega
      obtain ⟨xs, hxs⟩ : ∃ xs, bs ++ lowB v k = xs := ⟨_, rfl⟩
      rw [hxs] at hb ho hll HS
      obtain ⟨L, hL⟩ : ∃ L, xs.length = L := ⟨_, rfl⟩
      have c0 : wr.cell? ⟨g, 0, none⟩ = some (.slice a xs.length c) := hb.cell 0
      have HW := Lib.hid (show Blk wr g 141 #[.slice a xs.length c, .int .i64 0] ∧ wr.ownsRow B 5 1 (.slice a xs.length c) xs.length (xs.map byteV) ∧ Below B W wr from ⟨hb, ho, hB⟩)
      rw [hL] at ho c0 hll
      have ho1 := ho.alloc (.cells #[.int .u8 (shr8 v k % 256)] 5)
      have hBw : B ≤ (wr.alloc (.cells #[.int .u8 (shr8 v k % 256)] 5)).heap.size := by have := hb.lt; simp; omega
      have HO := Lib.hid (shr8_out v k)
      have HL := Lib.hid hL
      clear hb ho hB hL hxs hsn hwr
      go_wp2_with (at_builtin; refine wpList_append_lie _ rfl _ _ 84 rfl B 5 i0 _ 1 1 Tryz.underlying84 hi hz0 hz1 hz2 rfl (by decide) a L c (xs.map byteV) rfl ho1 (some ⟨wr.heap.size, 0, none⟩) 1 1 [.int .u8 (shr8 v k % 256)] rfl (Lies.of_blk (cs := #[.int .u8 (shr8 v k % 256)]) (Blk.new _ _ _)) (by simp [Value.oneCell']) (by unfold maxLen; omega) (by omega) hBw ?_; intro a2 cp2 w2 hown2 hg2 hat2
                   have m2 := Wr.push (x := shr8 v k % 256) (a2 := a2) (c2 := cp2) HW.out.1 HW.out.2.1 HW.out.2.2 hBg (by rw [HL.out]; exact hown2) hg2
                   rw [HL.out, HS.out] at m2
                   have M2 := Lib.hid m2.2
                   have c2 : w2.cell? ⟨g, 0, none⟩ = some (.slice a L c) := m2.1.cell 0
                   have f2 := m2.1.frozen 0
                   clear hown2 hg2 hat2 ho1 m2 c0)
      go_roundw
      case rel => exact ⟨k + 1, by omega, by go_num, by rw [HO.out], M2⟩
      case measure => simp [intOf]; omega
    · obtain rfl : k = n := by omega
      go_wp2
      go_ret
      exact ⟨rfl, hwr.out⟩
theorem num_1 {W w : World} {B g : Nat} {bs : List Int} (h : Wr W B g bs w) (hbl : bs.length ≤ 1000000) (v : Int) (h0 : 0 ≤ v) (h1 : v ≤ 255) :
    Calls Tryz.prog 98 #[.pointer (some ⟨g, 0, none⟩), .int .u64 v, .int .i64 1] w fun e w' => e = .returned (.pointer (some ⟨g, 0, none⟩)) ∧ Wr W B g (bs ++ lowB v 1) w' := num_any h hbl v h0 (by omega) 1 (by omega) (wrong1 v h0 h1 w)
theorem num_4 {W w : World} {B g : Nat} {bs : List Int} (h : Wr W B g bs w) (hbl : bs.length ≤ 1000000) (v : Int) (h0 : 0 ≤ v) (h1 : v ≤ 4294967295) :
    Calls Tryz.prog 98 #[.pointer (some ⟨g, 0, none⟩), .int .u64 v, .int .i64 4] w fun e w' => e = .returned (.pointer (some ⟨g, 0, none⟩)) ∧ Wr W B g (bs ++ lowB v 4) w' := num_any h hbl v h0 (by omega) 4 (by omega) (wrong4 v h0 h1 w)
theorem num_8 {W w : World} {B g : Nat} {bs : List Int} (h : Wr W B g bs w) (hbl : bs.length ≤ 1000000) (v : Int) (h0 : 0 ≤ v) (h1 : v ≤ 18446744073709551615) :
    Calls Tryz.prog 98 #[.pointer (some ⟨g, 0, none⟩), .int .u64 v, .int .i64 8] w fun e w' => e = .returned (.pointer (some ⟨g, 0, none⟩)) ∧ Wr W B g (bs ++ lowB v 8) w' := num_any h hbl v h0 h1 8 (by omega) (wrong8 v w)
theorem wr_new (w : World) : Wr w w.heap.size w.heap.size [] (w.alloc (.cells #[.slice none 0 0, .int .i64 0] 141)) := ⟨none, 0, Blk.new _ _ _, World.ownsRow_nil _ _ _ _, (Below.refl _ _).alloc (Nat.le_refl _) _, Nat.le_refl _⟩
theorem Wr.bel {W w : World} {B g : Nat} {bs : List Int} (h : Wr W B g bs w) : Below B W w := by obtain ⟨_, _, _, _, hB, _⟩ := h; exact hB
theorem Wr.drew {W w : World} {B g : Nat} {bs : List Int} (h : Wr W B g bs w) : Wr W B g bs w.drew := by
  obtain ⟨a, c, h1, h2, h3, h4⟩ := h
  exact ⟨a, c, h1.drew, h2.drew, h3.drew, h4⟩
theorem Wr.cell {W w : World} {B g : Nat} {bs : List Int} (h : Wr W B g bs w) {b i : Nat} {v : Value} (hb : b < B) (hc : W.cell? ⟨b, i, none⟩ = some v) : w.cell? ⟨b, i, none⟩ = some v := (h.bel.cell (p := ⟨b, i, none⟩) hb).trans hc
theorem strOf_size (bs : List Int) : (strOfNums bs).size = bs.length := by
  show (strOfNums bs).data.size = _
  rw [← Array.length_toList]
  show (bs.map fun x => UInt8.ofNat x.toNat).length = _
  rw [List.length_map]
/-- The bytes of a number, as text. -/
def numT (v : Int) (n : Nat) : ByteArray := strOfNums (lowB v n)
end Go.Proofs.YtakilnpfhljgfaaGreat.WI

/- The document's check sum (commonsref1.Sum). No condition. -/
namespace Go.Proofs.YtakilnpfhljgfaaGreat.SM
set_option maxRecDepth 100000
open Go.RowKit
set_option linter.unusedVariables false

theorem refsum_any (s : ByteArray) (w : World) (hs : s.size ≤ maxLen) :
    Calls Tryz.prog 96 #[.string s] w fun e w' => e = .returned (.int .u32 (sumL s.data.toList)) ∧ w = w' := by
  unfold maxLen at hs
  go_enter Tryz.func96, Tryz.ntmps96
  go_wp2
  go_loop [3, 4] (fun x i => ∃ k : Nat, k ≤ s.size ∧ i = .int .i64 (k : Int) ∧ x = .int .u32 (crcL 4294967295 (s.data.toList.take k))) (fun _ i => s.size - (intOf i).toNat)
  case atStart => exact ⟨0, Nat.zero_le _, rfl, rfl⟩
  case round =>
    obtain ⟨k, hk, rfl, rfl⟩ := hrel
    have hr := crcL_r (x := 4294967295) (by unfold U32; omega) (s.data.toList.take k)
    unfold U32 at hr
    by_cases hlt : k < s.size
    · have hsn : crcL 4294967295 (s.data.toList.take (k + 1)) = stepsI 8 (bits .xor .u32 (crcL 4294967295 (s.data.toList.take k)) (s[k].toNat : Int)) := by rw [take_next s k hlt, crcL_snoc]; rfl
      have HS := Lib.hid hsn
      clear hsn
      go_wp2
      go_loop [3, 5] (fun x i => ∃ j : Nat, j ≤ 8 ∧ i = .int .i64 (j : Int) ∧ x = .int .u32 (stepsI j (bits .xor .u32 (crcL 4294967295 (s.data.toList.take k)) (s[k].toNat : Int)))) (fun _ i => 8 - (intOf i).toNat)
      case atStart => exact ⟨0, by omega, rfl, by have := s[k].toNat_lt; rw [show ((s[k].toNat : Int) % 4294967296) = (s[k].toNat : Int) by omega]; rfl⟩
      case round =>
        obtain ⟨j, hj, rfl, rfl⟩ := hrel
        have hx := stepsI_r j (bits_u32 .xor (crcL 4294967295 (s.data.toList.take k)) (s[k].toNat : Int) (.inl rfl))
        generalize hX : stepsI j (bits .xor .u32 (crcL 4294967295 (s.data.toList.take k)) (s[k].toNat : Int)) = X at hx ⊢
        unfold U32 at hx
        have HX := Lib.hid hX
        clear hX
        by_cases hj8 : j < 8
        · by_cases ho : X % 2 = 1
          · go_wp2
            go_round
            case rel => exact ⟨j + 1, by omega, by go_num, by show _ = Value.int .u32 (stepI _); rw [HX.out]; unfold stepI; rw [if_pos ho]⟩
            case measure => simp [intOf]; omega
          · go_wp2
            go_round
            case rel => exact ⟨j + 1, by omega, by go_num, by show _ = Value.int .u32 (stepI _); rw [HX.out]; unfold stepI; rw [if_neg ho]⟩
            case measure => simp [intOf]; omega
        · obtain rfl : j = 8 := by omega
          go_wp2
          go_round
          case rel => exact ⟨k + 1, by omega, by go_num, by rw [HS.out, HX.out]⟩
          case measure => simp [intOf]; omega
    · go_wp2
      go_ret
      refine ⟨?_, rfl⟩
      unfold sumL
      rw [List.take_of_length_le (by simp; omega)]
      rfl
end Go.Proofs.YtakilnpfhljgfaaGreat.SM

/- What a law is told of a slice of whole numbers that came in. No condition. -/
namespace Go.Proofs.YtakilnpfhljgfaaGreat
set_option maxRecDepth 100000
open Go.RowKit
set_option linter.unusedVariables false
def IsRow (k : IntKind) (w : World) (a : Option Addr) (len cap : Nat) (zs : List Int) : Prop :=
  (a = none ∧ len = 0 ∧ cap = 0 ∧ zs = []) ∨
  ∃ x, a = some x ∧ len ≤ cap ∧ cap ≤ maxLen ∧ zs.length = cap ∧ (∀ i, i < zs.length → w.cell? (x.add i) = some (.int k (zs.getD i 0))) ∧ ∀ n ∈ zs, (Lit.int k n).wf = true
theorem IsRow.lies {k : IntKind} {w : World} {a : Option Addr} {len cap : Nat} {zs : List Int} (h : IsRow k w a len cap zs) : Lies w 1 a len ((zs.take len).map (Value.int k)) := by
  rcases h with ⟨rfl, rfl, rfl, rfl⟩ | ⟨x, rfl, h1, h2, h3, h4, _⟩
  · exact ⟨by simp, fun h => absurd h (by omega)⟩
  · refine ⟨by simp; omega, fun _ => ⟨x, rfl, fun j u hu => ?_⟩⟩
    rw [List.getElem?_map, List.getElem?_take] at hu
    split at hu
    · rename_i hj
      have hz : j < zs.length := by omega
      rw [List.getElem?_eq_getElem hz] at hu
      injection hu with hu
      rw [h4 j hz, ← hu]
      simp [List.getElem?_eq_getElem hz]
    · simp at hu
theorem IsRow.len {k : IntKind} {w : World} {a : Option Addr} {len cap : Nat} {zs : List Int} (h : IsRow k w a len cap zs) : len ≤ cap ∧ cap ≤ maxLen ∧ len ≤ zs.length := by
  rcases h with ⟨rfl, rfl, rfl, rfl⟩ | ⟨x, rfl, h1, h2, h3, h4, _⟩
  · exact ⟨by omega, by unfold maxLen; omega, by simp⟩
  · exact ⟨h1, h2, by omega⟩
/-- Its cells, where there is an element. -/
theorem IsRow.cells {k : IntKind} {w : World} {a : Option Addr} {len cap : Nat} {zs : List Int} (h : IsRow k w a len cap zs) (h0 : 0 < len) :
    ∃ b off, a = some ⟨b, off, none⟩ ∧ b < w.heap.size ∧ ∀ i, i < len → w.cell? ⟨b, off + i, none⟩ = some (.int k (zs.getD i 0)) := by
  rcases h with ⟨rfl, rfl, rfl, rfl⟩ | ⟨x, rfl, h1, h2, h3, h4, _⟩
  · omega
  · obtain ⟨b, off, rfl, hc⟩ := ints_at h4 (by omega)
    refine ⟨b, off, rfl, ?_, fun i hi => hc i (by omega)⟩
    exact World.block_lt_of_cell? w _ (hc 0 (by omega))
theorem IsRow.wf {k : IntKind} {w : World} {a : Option Addr} {len cap : Nat} {zs : List Int} (h : IsRow k w a len cap zs) : ∀ n ∈ zs, (Lit.int k n).wf = true := by
  rcases h with ⟨rfl, rfl, rfl, rfl⟩ | ⟨x, rfl, h1, h2, h3, h4, h5⟩
  · simp
  · exact h5
end Go.Proofs.YtakilnpfhljgfaaGreat

/- What a law is told of slices of texts and of truths that came in. No condition. -/
namespace Go.Proofs.YtakilnpfhljgfaaGreat
set_option maxRecDepth 100000
open Go.RowKit Go.WideShapes Go.ChangeShapes Go.Deep
set_option linter.unusedVariables false

def SliceIs {α : Type} (val : α → Value) (w : World) (a : Option Addr) (len cap : Nat) (xs : List α) : Prop :=
  Lies w 1 a len (xs.map val) ∧ len ≤ cap ∧ cap ≤ maxLen

section
variable {H : Type} {enc : TypeId × Value → H} {P : Program} {w : World}
theorem ints_in {t e : TypeId} {k : IntKind} {base : Nat} {v : Value} {d : DataW H} {p : List MemPlace} (ht : P.underlying t = some (.slice e)) (he : P.underlying e = some (.int k)) (hc : P.cellsOf e = 1)
    (hok : Value.okWide P w .any base t v) (h : DataW.Trod enc P w 0 (fun _ => true) true t v d p) :
    ∃ a len cap zs, v = .slice a len cap ∧ IsRow k w a len cap zs := by
  obtain ⟨a1, len1, cap1, rfl⟩ := okWide_slice ht hok
  obtain ⟨fuel, hf⟩ := h
  rcases open_ints ht he hc hf with ⟨hcs, _⟩ | ⟨x, l, c, zs, hcs, _, hl, hm, hz, _, hcell, hwz⟩
  · simp [Value.cells] at hcs
    obtain ⟨rfl, rfl, rfl⟩ := hcs
    exact ⟨_, _, _, [], rfl, .inl ⟨rfl, rfl, rfl, rfl⟩⟩
  · simp [Value.cells] at hcs
    obtain ⟨rfl, rfl, rfl⟩ := hcs
    exact ⟨_, _, _, zs, rfl, .inr ⟨_, rfl, hl, hm, by simpa using hz, hcell, hwz⟩⟩
theorem texts_in {t e : TypeId} {base : Nat} {v : Value} {d : DataW H} {p : List MemPlace} (ht : P.underlying t = some (.slice e)) (he : P.underlying e = some .string) (hc : P.cellsOf e = 1)
    (hok : Value.okWide P w .any base t v) (h : DataW.Trod enc P w 0 (fun _ => true) true t v d p) :
    ∃ a len cap ss, v = .slice a len cap ∧ SliceIs Value.string w a len cap ss := by
  obtain ⟨a0, l0, c0, rfl⟩ := okWide_slice ht hok
  obtain ⟨fuel, hf⟩ := h
  rcases open_strings ht he hc hf with ⟨hcs, _⟩ | ⟨a, len, cap, ss, hcs, _, hl, hm, hz, _, hcell, _⟩
  · simp [Value.cells] at hcs
    obtain ⟨rfl, rfl, rfl⟩ := hcs
    exact ⟨none, 0, 0, [], rfl, Lies.nil, Nat.le_refl _, Nat.zero_le _⟩
  · simp [Value.cells] at hcs
    obtain ⟨rfl, rfl, rfl⟩ := hcs
    simp at hz
    refine ⟨_, _, _, ss.take l0, rfl, ⟨by simp; omega, fun _ => ⟨a, rfl, fun j u hu => ?_⟩⟩, hl, hm⟩
    rw [List.getElem?_map, List.getElem?_take] at hu
    split at hu
    · rename_i hj
      have hjl : j < ss.length := by omega
      rw [List.getElem?_eq_getElem hjl] at hu
      injection hu with hu
      rw [hcell j hjl, ← hu]
      simp [List.getElem?_eq_getElem hjl]
    · simp at hu
theorem bools_in {t e : TypeId} {base : Nat} {v : Value} {d : DataW H} {p : List MemPlace} (ht : P.underlying t = some (.slice e)) (he : P.underlying e = some .bool) (hc : P.cellsOf e = 1)
    (hok : Value.okWide P w .any base t v) (h : DataW.Trod enc P w 0 (fun _ => true) true t v d p) :
    ∃ a len cap bs, v = .slice a len cap ∧ SliceIs Value.bool w a len cap bs := by
  obtain ⟨a0, l0, c0, rfl⟩ := okWide_slice ht hok
  obtain ⟨fuel, hf⟩ := h
  rcases open_slice ht hf with ⟨hcs, _⟩ | ⟨a, len, cap, m, n, D, Pl, hcs, _, hl, hm, hmm, _, hi⟩
  · simp [Value.cells] at hcs
    obtain ⟨rfl, rfl, rfl⟩ := hcs
    exact ⟨none, 0, 0, [], rfl, Lies.nil, Nat.le_refl _, Nat.zero_le _⟩
  · simp [Value.cells] at hcs
    obtain ⟨rfl, rfl, rfl⟩ := hcs
    have each : ∀ i, i < l0 → ∃ b, w.cell? (a.add i) = some (.bool b) := by
      intro i hil
      obtain ⟨cs', h1, h2⟩ := hi i (by rw [hmm]; simp; omega)
      rw [hc, Nat.mul_one] at h1
      obtain ⟨_, hcl, hat⟩ := World.cells?_some h1
      obtain ⟨b, e0, _⟩ := DataW.trod_bool he h2
      refine ⟨b, ?_⟩
      have := hat 0 (by omega)
      rw [e0] at this
      simpa [Addr.add] using this
    have hall : ∃ bs : List Bool, bs.length = l0 ∧ ∀ i, i < l0 → w.cell? (a.add i) = some (.bool (bs.getD i false)) := by
      clear hi hmm
      revert each
      generalize l0 = L
      intro each
      induction L with
      | zero => exact ⟨[], rfl, fun i hi => by omega⟩
      | succ L ih =>
        obtain ⟨bs, hb, hc⟩ := ih (fun i hi => each i (by omega))
        obtain ⟨b, hb1⟩ := each L (by omega)
        refine ⟨bs ++ [b], by simp [hb], fun i hi => ?_⟩
        by_cases hil : i < L
        · rw [hc i hil]; simp [List.getElem?_append_left (by omega : i < bs.length)]
        · obtain rfl : i = L := by omega
          rw [hb1]; simp [← hb]
    obtain ⟨bs, hb, hc'⟩ := hall
    refine ⟨_, _, _, bs, rfl, ⟨by simp [hb], fun _ => ⟨a, rfl, fun j u hu => ?_⟩⟩, hl, hm⟩
    rw [List.getElem?_map] at hu
    have hjl : j < bs.length := by
      rcases Nat.lt_or_ge j bs.length with h | h
      · exact h
      · rw [List.getElem?_eq_none h] at hu; cases hu
    rw [List.getElem?_eq_getElem hjl] at hu
    injection hu with hu
    rw [hc' j (by omega), ← hu]
    simp [List.getElem?_eq_getElem hjl]
end
end Go.Proofs.YtakilnpfhljgfaaGreat

/- sum.Of: the check sum of texts one behind the other. No condition. -/
namespace Go.Proofs.YtakilnpfhljgfaaGreat.SM
set_option maxRecDepth 100000
open Go.RowKit
set_option linter.unusedVariables false

/-- The bytes of texts one behind the other. -/
def allB (l : List ByteArray) : List UInt8 := l.flatMap (fun s => s.data.toList)
theorem allB_snoc (l : List ByteArray) (k : Nat) (s : ByteArray) (h : l[k]? = some s) : allB (l.take (k + 1)) = allB (l.take k) ++ s.data.toList := by
  unfold allB
  rw [List.take_add_one, h]
  simp

theorem and_one (x : Int) (h0 : 0 ≤ x) (h1 : x ≤ 4294967295) : bits .and .u32 x 1 = x % 2 := by
  obtain ⟨n, rfl⟩ : ∃ n : Nat, x = (n : Int) := ⟨x.toNat, by omega⟩
  show IntKind.u32.wrap ((BitVec.ofInt 32 (n : Int) &&& BitVec.ofInt 32 1).toNat : Int) = _
  have h2 : (BitVec.ofInt 32 (n : Int)).toNat = n := by rw [BitVec.ofInt_natCast, BitVec.toNat_ofNat]; exact Nat.mod_eq_of_lt (by omega)
  have h3 : (BitVec.ofInt 32 1).toNat = 1 := by decide
  rw [BitVec.toNat_and, h2, h3, Nat.and_one_is_mod]
  simp only [IntKind.wrap, IntKind.bits, IntKind.signed]
  simp
  omega

theorem xor_max (x : Int) (h0 : 0 ≤ x) (h1 : x ≤ 4294967295) : bits .xor .u32 IntKind.u32.max x = 4294967295 - x := by
  obtain ⟨n, rfl⟩ : ∃ n : Nat, x = (n : Int) := ⟨x.toNat, by omega⟩
  show IntKind.u32.wrap ((BitVec.ofInt 32 4294967295 ^^^ BitVec.ofInt 32 (n : Int)).toNat : Int) = _
  have h2 : (BitVec.ofInt 32 (n : Int)).toNat = n := by rw [BitVec.ofInt_natCast, BitVec.toNat_ofNat]; exact Nat.mod_eq_of_lt (by omega)
  have h3 : BitVec.ofInt 32 4294967295 = BitVec.allOnes 32 := by decide
  rw [h3, BitVec.allOnes_xor, BitVec.toNat_not, h2]
  simp only [IntKind.wrap, IntKind.bits, IntKind.signed]
  simp
  omega

theorem of_any (A : Option Addr) (n c : Nat) (l : List ByteArray) (w : World) (hl : Lies w 1 A n (l.map Value.string)) (hn : n ≤ maxLen) (hs : ∀ s ∈ l, s.size ≤ maxLen) :
    Calls Tryz.prog 103 #[.slice A n c] w fun e w' => e = .returned (.int .u32 (sumL (allB l))) ∧ w = w' := by
  unfold maxLen at hn
  have HL := Lib.hid hl
  have hln : l.length = n := by have := hl.1; simpa using this
  have HN := Lib.hid hln
  clear hl hln
  go_enter Tryz.func103, Tryz.ntmps103
  go_wp2
  go_loop [3, 10] (fun x i => ∃ k : Nat, k ≤ n ∧ i = .int .i64 (k : Int) ∧ x = .int .u32 (crcL 4294967295 (allB (l.take k)))) (fun _ i => n - (intOf i).toNat)
  case atStart => exact ⟨0, Nat.zero_le _, rfl, rfl⟩
  case round =>
    obtain ⟨k, hk, rfl, rfl⟩ := hrel
    by_cases hlt : k < n
    · obtain ⟨ad, u, rfl, hu, hcell⟩ := HL.out.at_ hlt
      obtain ⟨s, hsk, rfl⟩ : ∃ s, l[k]? = some s ∧ Value.string s = u := by simpa using hu
      have hsz := hs s (List.mem_of_getElem? hsk)
      unfold maxLen at hsz
      have hal := allB_snoc l k s hsk
      have HA := Lib.hid hal
      clear hu hsk hal
      generalize hP : allB (l.take k) = P at HA ⊢
      clear hP
      go_wp2_with fail
      go_loop [3, 16] (fun x i => ∃ m : Nat, m ≤ s.size ∧ i = .int .i64 (m : Int) ∧ x = .int .u32 (crcL 4294967295 (P ++ s.data.toList.take m))) (fun _ i => s.size - (intOf i).toNat)
      case atStart => exact ⟨0, Nat.zero_le _, rfl, by simp⟩
      case round =>
        obtain ⟨m, hm, rfl, rfl⟩ := hrel
        have hr := crcL_r (x := 4294967295) (by unfold U32; omega) (P ++ s.data.toList.take m)
        unfold U32 at hr
        by_cases hms : m < s.size
        · have hsn : crcL 4294967295 (P ++ s.data.toList.take (m + 1)) = stepsI 8 (bits .xor .u32 (crcL 4294967295 (P ++ s.data.toList.take m)) (s[m].toNat : Int)) := by rw [take_next s m hms, ← List.append_assoc, crcL_snoc]; rfl
          have HS := Lib.hid hsn
          clear hsn
          go_wp2
          go_loop [3, 25] (fun x i => ∃ j : Nat, j ≤ 8 ∧ i = .int .i64 (j : Int) ∧ x = .int .u32 (stepsI j (bits .xor .u32 (crcL 4294967295 (P ++ s.data.toList.take m)) (s[m].toNat : Int)))) (fun _ i => 8 - (intOf i).toNat)
          case atStart => exact ⟨0, by omega, rfl, by have := s[m].toNat_lt; rw [show ((s[m].toNat : Int) % 4294967296) = (s[m].toNat : Int) by omega]; rfl⟩
          case round =>
            obtain ⟨j, hj, rfl, rfl⟩ := hrel
            have hx := stepsI_r j (bits_u32 .xor (crcL 4294967295 (P ++ s.data.toList.take m)) (s[m].toNat : Int) (.inl rfl))
            generalize hX : stepsI j (bits .xor .u32 (crcL 4294967295 (P ++ s.data.toList.take m)) (s[m].toNat : Int)) = X at hx ⊢
            unfold U32 at hx
            have HX := Lib.hid hX
            clear hX
            have h1 : bits .and .u32 X 1 = X % 2 := and_one X hx.1 hx.2
            by_cases hj8 : j < 8
            · by_cases ho : X % 2 = 1
              · go_wp2
                go_round
                case rel => exact ⟨j + 1, by omega, by go_num, by show _ = Value.int .u32 (stepI _); rw [HX.out]; unfold stepI; rw [if_pos ho]⟩
                case measure => simp [intOf]; omega
              · go_wp2
                go_round
                case rel => exact ⟨j + 1, by omega, by go_num, by show _ = Value.int .u32 (stepI _); rw [HX.out]; unfold stepI; rw [if_neg ho]⟩
                case measure => simp [intOf]; omega
            · obtain rfl : j = 8 := by omega
              go_wp2
              go_round
              case rel => exact ⟨m + 1, by omega, by go_num, by rw [HS.out, HX.out]⟩
              case measure => simp [intOf]; omega
        · obtain rfl : m = s.size := by omega
          go_wp2
          go_round
          case rel => exact ⟨k + 1, by omega, by go_num, by rw [HA.out, List.take_of_length_le (by simp)]⟩
          case measure => simp [intOf]; omega
    · obtain rfl : k = n := by omega
      have hr := crcL_r (x := 4294967295) (by unfold U32; omega) (allB (l.take k))
      have e1 : l.take k = l := List.take_of_length_le (by have := HN.out; omega)
      rw [e1] at hr ⊢
      clear e1
      unfold U32 at hr
      go_wp2
      go_ret
      exact ⟨by show _ = Ending.returned (.int .u32 (4294967295 - crcL 4294967295 (allB l))); rw [← xor_max _ hr.1 hr.2]; rfl, rfl⟩
end Go.Proofs.YtakilnpfhljgfaaGreat.SM

/- sum.Seal, Open, Read; commonsref1.Seal, Open, Read. No condition. -/
namespace Go.Proofs.YtakilnpfhljgfaaGreat.SM
set_option maxRecDepth 100000
open Go.RowKit
set_option linter.unusedVariables false

abbrev sumT (s : ByteArray) : Int := sumL s.data.toList
theorem sumL_b (l : List UInt8) : 0 ≤ sumL l ∧ sumL l ≤ 4294967295 := by
  have := crcL_r (x := 4294967295) (by unfold U32; omega) l
  unfold U32 at this
  unfold sumL
  omega
def sealT (s : ByteArray) : ByteArray := WI.fourT (sumT s) ++ s

theorem fourT_size (v : Int) : (WI.fourT v).size = 4 := by
  unfold WI.fourT strOfNums
  simp [ByteArray.size, WI.lowB]
theorem of_one (s : ByteArray) (hs : s.size ≤ maxLen) (w : World) : Calls Tryz.prog 103 #[.slice (some ⟨w.heap.size, 0, none⟩) 1 1] (w.alloc (.cells #[.string s] 9)) fun e w' => e = .returned (.int .u32 (sumT s)) ∧ w.alloc (.cells #[.string s] 9) = w' := by
  have h := of_any (some ⟨w.heap.size, 0, none⟩) 1 1 [s] (w.alloc (.cells #[.string s] 9)) (Lies.of_blk (cs := #[.string s]) (Blk.new _ _ _)) (by decide) (fun x hx => by
    obtain rfl : x = s := by simpa using hx
    exact hs)
  have e : allB [s] = s.data.toList := by simp [allB]
  rw [e] at h
  exact h

end Go.Proofs.YtakilnpfhljgfaaGreat.SM

/- sum.Open and the document's. No condition. -/
namespace Go.Proofs.YtakilnpfhljgfaaGreat.SM
set_option maxRecDepth 100000
open Go.RowKit
set_option linter.unusedVariables false

def headT (b : ByteArray) : ByteArray := b.extract 0 4
def tailT (b : ByteArray) : ByteArray := b.extract 4 b.size

theorem of_blk (s : ByteArray) (hs : s.size ≤ maxLen) {W : World} {g : Nat} (h : Blk W g 9 #[.string s]) : Calls Tryz.prog 103 #[.slice (some ⟨g, 0, none⟩) 1 1] W fun e w' => e = .returned (.int .u32 (sumT s)) ∧ W = w' := by
  have h := of_any (some ⟨g, 0, none⟩) 1 1 [s] W (Lies.of_blk (cs := #[.string s]) h) (by decide) (fun x hx => by
    obtain rfl : x = s := by simpa using hx
    exact hs)
  have e : allB [s] = s.data.toList := by simp [allB]
  rw [e] at h
  exact h
theorem newThen {w w2 : World} {o : Obj} (h : Below (w.alloc o).drew.heap.size (w.alloc o).drew w2) : Below w.heap.size w w2 := by
  have h0 : Below w.heap.size w (w.alloc o).drew := ((Below.refl _ _).alloc (Nat.le_refl _) _).drew
  exact h0.trans (h.mono h0.size)
theorem clone_any (s : ByteArray) (hs : s.size ≤ 1000000) (w : World) : Calls Tryz.prog 100 #[.string s] w fun e w' => e = .returned (.string s) ∧ Below w.heap.size w w' := by
  go_enter Tryz.func100, Tryz.ntmps100
  go_wp2_with (go_at_call 115; refine (Tryz.stringslite_Clone s _ (by omega)).mono ?_; rintro e w1 ⟨rfl, hb⟩)
  go_ret
  exact ⟨rfl, hb⟩
/-- What Open tells of four bytes or more. -/
def fits (b : ByteArray) : Bool := (headT b).toList == (WI.fourT (sumT (tailT b))).toList
end Go.Proofs.YtakilnpfhljgfaaGreat.SM

/- A text's bytes in a block: '[]byte(s)', a byte that is turned, 'string(b)'. Over any program. No condition. -/
namespace Go.Proofs.YtakilnpfhljgfaaGreat
set_option maxRecDepth 100000
open Go.RowKit
set_option linter.unusedVariables false

def Cells (w : World) (g : Nat) (l : List UInt8) : Prop := g < w.heap.size ∧ ∀ j x, l[j]? = some x → w.cell? ⟨g, j, none⟩ = some (.int .u8 (x.toNat : Int)) ∧ w.frozen? ⟨g, j, none⟩ = false
section
variable {w w' : World} {g : Nat} {l : List UInt8}
theorem Cells.below {B : Nat} (h : Cells w g l) (hb : Below B w w') (hg : g < B) (hB : B ≤ w.heap.size) : Cells w' g l :=
  ⟨Nat.lt_of_lt_of_le h.1 hb.size, fun j x hx => ⟨(hb.cell (p := ⟨g, j, none⟩) hg).trans (h.2 j x hx).1, (hb.frozen (p := ⟨g, j, none⟩) hg).trans (h.2 j x hx).2⟩⟩
theorem Cells.kept (h : Cells w g l) (hb : Below w.heap.size w w') : Cells w' g l := h.below hb h.1 (Nat.le_refl _)
theorem heap_setCell_at (w : World) (p : Addr) (u : Value) (h : p.block < w.heap.size) : (w.setCell p u).heap.size = w.heap.size := by simp [World.setCell]
theorem Cells.set_ (h : Cells w g l) (p : Nat) (hp : p < l.length) (d : UInt8) : Cells (w.setCell ⟨g, p, none⟩ (.int .u8 (d.toNat : Int))) g (l.set p d) := by
  have h0 := h.2 p l[p] (List.getElem?_eq_getElem hp)
  refine ⟨by simpa [World.setCell] using h.1, fun j x hx => ?_⟩
  by_cases hj : j = p
  · subst hj
    rw [List.getElem?_set_self hp] at hx
    injection hx with hx
    subst hx
    refine ⟨?_, ?_⟩
    · have : (w.setCell ⟨g, j, none⟩ (.int .u8 (d.toNat : Int))).cell? ⟨g, j, none⟩ = some (.int .u8 (d.toNat : Int)) := World.cell?_setCell_same w ⟨g, j, none⟩ _ (by rw [h0.1])
      exact this
    · rw [World.frozen?_setCell]; exact h0.2
  · rw [List.getElem?_set_ne (fun e => hj e.symm)] at hx
    obtain ⟨h1, h2⟩ := h.2 j x hx
    refine ⟨?_, by rw [World.frozen?_setCell]; exact h2⟩
    rw [World.cell?_setCell_other w ⟨g, p, none⟩ ⟨g, j, none⟩ _ (fun e => hj (by injection e with e1 e2; exact e2.symm))]
    exact h1
theorem Cells.far (h : Cells w g l) {q : Addr} (hq : q.block ≠ g) (u : Value) : Cells (w.setCell q u) g l :=
  ⟨by simpa [World.setCell] using h.1, fun j x hx => ⟨by rw [World.cell?_setCell_other w q ⟨g, j, none⟩ u (fun e => hq (by rw [e]))]; exact (h.2 j x hx).1, by rw [World.frozen?_setCell]; exact (h.2 j x hx).2⟩⟩
theorem cells_new (w : World) (e : TypeId) (s : ByteArray) : Cells (Lib.bytesWorld w e s) w.heap.size s.data.toList := by
  refine ⟨by rw [Lib.bytesWorld_size]; omega, fun j x hx => ?_⟩
  have hj : j < s.size := by
    rcases Nat.lt_or_ge j s.data.toList.length with h | h
    · exact h
    · rw [List.getElem?_eq_none h] at hx; cases hx
  refine ⟨?_, ?_⟩
  · rw [Lib.bytesWorld_cell w e s j hj]
    rw [List.getD_eq_getElem?_getD, hx]
    rfl
  · have := Lib.bytesWorld_at_new w e s
    simp [World.frozen?, this, Lib.bytesCells]
    omega
theorem below_bytes (w : World) (e : TypeId) (s : ByteArray) : Below w.heap.size w (Lib.bytesWorld w e s) :=
  ⟨rfl, rfl, rfl, by rw [Lib.bytesWorld_size]; omega, fun k hk => Lib.bytesWorld_at_old w e s k hk⟩
theorem strOfNums_bytes (l : List UInt8) : strOfNums (l.map fun x => (x.toNat : Int)) = ⟨l.toArray⟩ := by
  unfold strOfNums
  congr 2
  rw [List.map_map]
  conv => rhs; rw [← List.map_id l]
  exact List.map_congr_left fun x _ => by simp
theorem Cells.str {P : Program} (h : Cells w g l) (src dst e : TypeId) (hs : P.underlying src = some (.slice e)) (he : P.underlying e = some (.int .u8)) (hd : P.underlying dst = some .string) (n c : Nat) (hn : l.length = n) :
    (convert src dst (.slice (some ⟨g, 0, none⟩) n c)).run P w = .ok (.string ⟨l.toArray⟩) w := by
  subst hn
  have := run_convert_bytes_arg (P := P) w src e hs he g 0 l.length c (l.map fun x => (x.toNat : Int)) (by simp) (fun i hi => by
    have hx : l[i]? = some l[i] := List.getElem?_eq_getElem (by simpa using hi)
    rw [Nat.zero_add, (h.2 i l[i] hx).1]
    simp [hx]) dst hd
  rw [strOfNums_bytes] at this
  exact this
end
theorem xor_u8 (a b : UInt8) : bits .xor .u8 (a.toNat : Int) (b.toNat : Int) = (((a ^^^ b).toNat : Nat) : Int) := by
  have h1 := a.toNat_lt
  have h2 := b.toNat_lt
  have hx : a.toNat ^^^ b.toNat < 2 ^ 8 := Nat.xor_lt_two_pow h1 h2
  show IntKind.u8.wrap ((BitVec.ofInt 8 (a.toNat : Int) ^^^ BitVec.ofInt 8 (b.toNat : Int)).toNat : Int) = _
  have e1 : (BitVec.ofInt 8 (a.toNat : Int)).toNat = a.toNat := by rw [BitVec.ofInt_natCast, BitVec.toNat_ofNat]; exact Nat.mod_eq_of_lt (by omega)
  have e2 : (BitVec.ofInt 8 (b.toNat : Int)).toNat = b.toNat := by rw [BitVec.ofInt_natCast, BitVec.toNat_ofNat]; exact Nat.mod_eq_of_lt (by omega)
  rw [BitVec.toNat_xor, e1, e2, UInt8.toNat_xor]
  simp only [IntKind.wrap, IntKind.bits, IntKind.signed]
  simp
  omega
end Go.Proofs.YtakilnpfhljgfaaGreat

/- wire.Reader: NewReader, Num of 1, 4 and 8 bytes. No condition. -/
namespace Go.Proofs.YtakilnpfhljgfaaGreat.WI
set_option maxRecDepth 100000
open Go.RowKit
set_option linter.unusedVariables false
set_option linter.unusedSimpArgs false

abbrev TRd : TypeId := 157
/-- The reader in block g has the bytes s to read; nothing but it and new blocks was turned since W. -/
def Rd (W : World) (B g : Nat) (s : ByteArray) (w : World) : Prop := Blk w g TRd #[.string s, .int .i64 0] ∧ Below B W w ∧ B ≤ g
def leL : List UInt8 → Int
  | [] => 0
  | b :: l => (b.toNat : Int) + 256 * leL l
theorem leL_snoc (l : List UInt8) (c : UInt8) : leL (l ++ [c]) = leL l + (c.toNat : Int) * ((256 ^ l.length : Nat) : Int) := by
  induction l with
  | nil => simp [leL]
  | cons b l ih =>
    show (b.toNat : Int) + 256 * leL (l ++ [c]) = (b.toNat : Int) + 256 * leL l + _
    rw [ih, List.length_cons, Nat.pow_succ]
    have : (c.toNat : Int) * ((256 ^ l.length * 256 : Nat) : Int) = 256 * ((c.toNat : Int) * ((256 ^ l.length : Nat) : Int)) := by
      rw [Int.natCast_mul]
      rw [show (((256 : Nat)) : Int) = 256 from rfl, ← Int.mul_assoc, Int.mul_comm]
    rw [this]
    omega
theorem leL_lt (l : List UInt8) : ∃ m : Nat, leL l = (m : Int) ∧ m < 256 ^ l.length := by
  induction l with
  | nil => exact ⟨0, rfl, by decide⟩
  | cons b l ih =>
    obtain ⟨m, h1, h2⟩ := ih
    refine ⟨b.toNat + 256 * m, ?_, ?_⟩
    · show (b.toNat : Int) + 256 * leL l = _
      rw [h1]; omega
    · have hb := b.toNat_lt
      rw [List.length_cons, Nat.pow_succ]
      have : b.toNat < 256 := hb
      omega
theorem or_u64 (a b : Nat) (ha : a < 18446744073709551616) (hb : b < 18446744073709551616) : bits .or .u64 (a : Int) (b : Int) = ((a ||| b : Nat) : Int) := by
  have hx : a ||| b < 2 ^ 64 := Nat.or_lt_two_pow (by omega) (by omega)
  show IntKind.u64.wrap ((BitVec.ofInt 64 (a : Int) ||| BitVec.ofInt 64 (b : Int)).toNat : Int) = _
  have e1 : (BitVec.ofInt 64 (a : Int)).toNat = a := by rw [BitVec.ofInt_natCast, BitVec.toNat_ofNat]; exact Nat.mod_eq_of_lt (by omega)
  have e2 : (BitVec.ofInt 64 (b : Int)).toNat = b := by rw [BitVec.ofInt_natCast, BitVec.toNat_ofNat]; exact Nat.mod_eq_of_lt (by omega)
  rw [BitVec.toNat_or, e1, e2]
  simp only [IntKind.wrap, IntKind.bits, IntKind.signed]
  simp
  omega
theorem le_step (l : List UInt8) (k : Nat) (c : UInt8) (hc : l[k]? = some c) (hk : k < 8) :
    bits BinOp.or IntKind.u64 (leL (l.take k)) (IntKind.u64.wrap (IntKind.u64.wrap (c.toNat : Int) * 2 ^ (8 * k))) = leL (l.take (k + 1)) := by
  have hlen : (l.take k).length = k := by rw [List.length_take]; have := (List.getElem?_eq_some_iff.1 hc).1; omega
  obtain ⟨m, h1, h2⟩ := leL_lt (l.take k)
  rw [hlen] at h2
  have hcl : c.toNat < 256 := c.toNat_lt
  have hpow : (256 : Nat) ^ k = 2 ^ (8 * k) := by rw [show (256 : Nat) = 2 ^ 8 from rfl, ← Nat.pow_mul]
  have hle : 2 ^ (8 * k) ≤ 2 ^ 56 := Nat.pow_le_pow_right (by omega) (by omega)
  have hmul : c.toNat * 2 ^ (8 * k) ≤ 255 * 2 ^ 56 := Nat.mul_le_mul (by omega) hle
  have hw1 : IntKind.u64.wrap (c.toNat : Int) = (c.toNat : Int) := IntWalk.u64_in _ (by omega)
  have hcast : ((2 : Int) ^ (8 * k)) = ((2 ^ (8 * k) : Nat) : Int) := by rw [Int.natCast_pow]; rfl
  have hw2 : IntKind.u64.wrap ((c.toNat : Int) * 2 ^ (8 * k)) = ((c.toNat * 2 ^ (8 * k) : Nat) : Int) := by
    rw [hcast, ← Int.natCast_mul]
    exact IntWalk.u64_in _ (by omega)
  rw [hw1, hw2, h1, or_u64 _ _ (by omega) (by omega)]
  rw [List.take_add_one, hc]
  show _ = leL (l.take k ++ [c])
  rw [leL_snoc, hlen, h1, hpow]
  have hor := Nat.two_pow_add_eq_or_of_lt (by rw [← hpow]; exact h2 : m < 2 ^ (8 * k)) c.toNat
  rw [Nat.or_comm, Nat.mul_comm c.toNat, ← hor, Nat.mul_comm (2 ^ (8 * k)), ← Int.natCast_mul]
  omega
theorem err_ok {w : World} {g : Nat} {s : ByteArray} (hb : Blk w g TRd #[.string s, .int .i64 0]) : Calls Tryz.prog 121 #[.pointer (some ⟨g, 0, none⟩)] w fun e w' => e = .returned (.int .i64 0) ∧ w' = w := by
  have c1 : w.cell? ⟨g, 1, none⟩ = some (.int .i64 0) := hb.cell 1
  go_enter Tryz.func121, Tryz.ntmps121
  go_wp2
  go_ret
  exact ⟨rfl, rfl⟩
theorem take_ok {W w : World} {B g : Nat} {s : ByteArray} (h : Rd W B g s w) (n : Nat) (hn : n ≤ s.size) (hs : s.size ≤ 1000000) :
    Calls Tryz.prog 112 #[.pointer (some ⟨g, 0, none⟩), .int .i64 (n : Int)] w fun e w' => e = .returned (.string (s.extract 0 n)) ∧ Rd W B g (s.extract n s.size) w' ∧ Keeps (only g) w w' := by
  obtain ⟨hb, hB, hBg⟩ := h
  have ke := err_ok hb
  have c0 : w.cell? ⟨g, 0, none⟩ = some (.string s) := hb.cell 0
  have f0 := hb.frozen 0
  have H2 : Hid (Rd W B g (s.extract n s.size) (w.setCell ⟨g, 0, none⟩ (.string (s.extract n s.size)))) := Lib.hid ⟨hb.set_ 0 _, hB.setCell hBg _, hBg⟩
  have HK := Lib.hid (keep1 w g 0 (.string (s.extract n s.size)))
  have hi : (n : Int) ≤ (s.size : Int) := by omega
  clear hb hB hBg
  go_enter Tryz.func112, Tryz.ntmps112
  go_wp2_with (go_at_call 121; refine ke.mono ?_; rintro e w1 ⟨rfl, rfl⟩)
  go_ret
  exact ⟨rfl, H2.out, HK.out⟩
theorem new_reader (s : ByteArray) (hs : s.size ≤ 1000000) (w : World) : Calls Tryz.prog 91 #[.string s] w fun e w' => ∃ g, e = .returned (.pointer (some ⟨g, 0, none⟩)) ∧ Rd w w.heap.size g s w' := by
  have kc := SM.clone_any s hs w
  go_enter Tryz.func91, Tryz.ntmps91
  go_wp2_with (go_at_call 100; refine kc.mono ?_; rintro e w1 ⟨rfl, hb⟩; have HB := Lib.hid hb; clear hb)
  go_ret
  exact ⟨w1.heap.size, rfl, Blk.new _ _ _, HB.out.alloc HB.out.size _, HB.out.size⟩
set_option maxHeartbeats 1600000 in
theorem rnum_any {W w : World} {B g : Nat} {s : ByteArray} (h : Rd W B g s w) (n : Nat) (hn : n ≤ s.size) (hs : s.size ≤ 1000000) (hn8 : n ≤ 8)
    (hw : Calls Tryz.prog 110 #[.int .u64 0, .int .i64 (n : Int)] w fun e w' => e = .returned (.int .i64 0) ∧ w = w') :
    Calls Tryz.prog 92 #[.pointer (some ⟨g, 0, none⟩), .int .i64 (n : Int)] w fun e w' => e = .returned (.int .u64 (leL (s.extract 0 n).data.toList)) ∧ Rd W B g (s.extract n s.size) w' ∧ Keeps (only g) w w' := by
  have kt := take_ok h n hn hs
  obtain ⟨l, hl⟩ : ∃ l, s.extract 0 n = l := ⟨_, rfl⟩
  have hln : l.size = n := by rw [← hl, ByteArray.size_extract]; omega
  rw [hl] at kt
  rw [hl]
  have HLL : Hid (l.data.toList.length = n) := Lib.hid (by rw [Array.length_toList]; exact hln)
  have cv := fun W => Lib.run_convert_string_bytes (P := Tryz.prog) W 9 84 5 l Tryz.underlying9 Tryz.underlying84 Tryz.underlying5
  rw [hln] at cv
  clear h hl
  go_enter Tryz.func92, Tryz.ntmps92
  go_wp2_with (first
    | (go_at_call 110; refine hw.mono ?_; rintro e w' ⟨rfl, rfl⟩)
    | (go_at_call 112; refine kt.mono ?_; rintro e w1 ⟨rfl, h1, hk1⟩; have H1 := Lib.hid h1; have HK1 := Lib.hid hk1; clear h1 hk1))
  have b2 := cells_new w1 5 l
  have hbel := below_bytes w1 5 l
  generalize Lib.bytesWorld w1 5 l = w2 at b2 hbel ⊢
  generalize w1.heap.size = x2 at b2 ⊢
  have HB2 := Lib.hid b2
  have HKK : Hid (Keeps (only g) w w2) := Lib.hid (HK1.out.trans (Keeps.of_below hbel (fun _ => False)) (fun _ _ h => h.elim))
  have HL2 : Hid (Rd W B g (s.extract n s.size) w2) := Lib.hid ⟨H1.out.1.below hbel (by have := H1.out.1.lt; omega), H1.out.2.1.trans (hbel.mono (by have := H1.out.1.lt; have := H1.out.2.2; omega)), H1.out.2.2⟩
  have HOR : Hid (∀ (k : Nat) (c : UInt8), k < n → l.data.toList[k]? = some c → bits BinOp.or IntKind.u64 (leL (l.data.toList.take k)) (IntKind.u64.wrap (IntKind.u64.wrap (c.toNat : Int) * 2 ^ (8 * k))) = leL (l.data.toList.take (k + 1))) := Lib.hid fun k c hk hc => le_step l.data.toList k c hc (by omega)
  clear b2 hbel hw kt
  go_loopw [6, 7, 8, 21] (fun v _ _ i wr => ∃ k : Nat, i = .int .i64 (k : Int) ∧ v = .int .u64 (leL (l.data.toList.take k)) ∧ k ≤ n ∧ wr = w2) (fun _ _ _ i _ => n - (intOf i).toNat)
  case atStart => exact ⟨0, rfl, rfl, by omega, rfl⟩
  case round =>
    obtain ⟨k, rfl, rfl, hk, rfl⟩ := hrel
    by_cases hlt : k < n
    · obtain ⟨c, hc⟩ : ∃ c, l.data.toList[k]? = some c := ⟨_, List.getElem?_eq_getElem (by rw [HLL.out]; exact hlt)⟩
      have hcell := (HB2.out.2 k c hc).1
      obtain ⟨v, hv⟩ : ∃ v, leL (l.data.toList.take k) = v := ⟨_, rfl⟩
      rw [hv]
      have HC := Lib.hid hc
      have HV := Lib.hid hv
      clear hc hv
      go_wp2
      have hor := HOR.out k c hlt HC.out
      rw [HV.out] at hor
      go_roundw
      case rel => exact ⟨k + 1, by go_num, by rw [hor], by omega, trivial⟩
      case measure => simp [intOf]; omega
    · obtain rfl : k = n := by omega
      rw [show l.data.toList.take k = l.data.toList from List.take_of_length_le (by rw [HLL.out]; exact Nat.le_refl _)]
      clear HOR
      obtain ⟨v, hv⟩ : ∃ v, leL l.data.toList = v := ⟨_, rfl⟩
      rw [hv]
      have HV := Lib.hid hv
      clear hv
      go_wp2
      go_ret
      exact ⟨by rw [HV.out]; rfl, HL2.out, HKK.out⟩
theorem rnum_1 {W w : World} {B g : Nat} {s : ByteArray} (h : Rd W B g s w) (hn : 1 ≤ s.size) (hs : s.size ≤ 1000000) :
    Calls Tryz.prog 92 #[.pointer (some ⟨g, 0, none⟩), .int .i64 1] w fun e w' => e = .returned (.int .u64 (leL (s.extract 0 1).data.toList)) ∧ Rd W B g (s.extract 1 s.size) w' ∧ Keeps (only g) w w' := rnum_any h 1 hn hs (by omega) (wrong1 0 (by decide) (by decide) w)
theorem rnum_4 {W w : World} {B g : Nat} {s : ByteArray} (h : Rd W B g s w) (hn : 4 ≤ s.size) (hs : s.size ≤ 1000000) :
    Calls Tryz.prog 92 #[.pointer (some ⟨g, 0, none⟩), .int .i64 4] w fun e w' => e = .returned (.int .u64 (leL (s.extract 0 4).data.toList)) ∧ Rd W B g (s.extract 4 s.size) w' ∧ Keeps (only g) w w' := rnum_any h 4 hn hs (by omega) (wrong4 0 (by decide) (by decide) w)
theorem rnum_8 {W w : World} {B g : Nat} {s : ByteArray} (h : Rd W B g s w) (hn : 8 ≤ s.size) (hs : s.size ≤ 1000000) :
    Calls Tryz.prog 92 #[.pointer (some ⟨g, 0, none⟩), .int .i64 8] w fun e w' => e = .returned (.int .u64 (leL (s.extract 0 8).data.toList)) ∧ Rd W B g (s.extract 8 s.size) w' ∧ Keeps (only g) w w' := rnum_any h 8 hn hs (by omega) (wrong8 0 w)
theorem Rd.drew {W w : World} {B g : Nat} {s : ByteArray} (h : Rd W B g s w) : Rd W B g s w.drew := ⟨h.1.drew, h.2.1.drew, h.2.2⟩
theorem Rd.alloc {W w : World} {B g : Nat} {s : ByteArray} (h : Rd W B g s w) (o : Obj) : Rd W B g s (w.alloc o) :=
  ⟨h.1.alloc o, h.2.1.alloc (by have := h.1.lt; have := h.2.2; omega) o, h.2.2⟩
theorem Rd.then_ {W w w' : World} {B g : Nat} {s : ByteArray} (h : Rd W B g s w) (hb : Below w.heap.size w w') : Rd W B g s w' :=
  ⟨h.1.below hb h.1.lt, h.2.1.trans (hb.mono (by have := h.1.lt; have := h.2.2; omega)), h.2.2⟩
/-- A number's bytes tell the number. -/
theorem le_low (v : Int) (n : Nat) (h0 : 0 ≤ v) (h1 : v < ((256 ^ n : Nat) : Int)) : leL ((lowB v n).map fun x => UInt8.ofNat x.toNat) = v := by
  induction n generalizing v with
  | zero => show (0 : Int) = v; simp at h1; omega
  | succ n ih =>
    rw [Nat.pow_succ, Int.natCast_mul] at h1
    show ((UInt8.ofNat (v % 256).toNat).toNat : Int) + 256 * leL ((lowB (v / 256) n).map fun x => UInt8.ofNat x.toNat) = v
    rw [ih (v / 256) (by omega) (by omega)]
    have : (UInt8.ofNat (v % 256).toNat).toNat = (v % 256).toNat := by
      rw [UInt8.toNat_ofNat']
      omega
    rw [this]
    omega
theorem numT_data (v : Int) (n : Nat) : (numT v n).data.toList = (lowB v n).map fun x => UInt8.ofNat x.toNat := rfl
theorem numT_size (v : Int) (n : Nat) : (numT v n).size = n := by
  show (numT v n).data.size = n
  rw [← Array.length_toList, numT_data, List.length_map, lowB_len]
theorem le_num (v : Int) (n : Nat) (h0 : 0 ≤ v) (h1 : v < ((256 ^ n : Nat) : Int)) : leL (numT v n).data.toList = v := le_low v n h0 h1
end Go.Proofs.YtakilnpfhljgfaaGreat.WI

/- sum.Read, sum.Stamp. No condition. -/
namespace Go.Proofs.YtakilnpfhljgfaaGreat.SM
set_option maxRecDepth 100000
open Go.RowKit
set_option linter.unusedVariables false

def frontT (b : ByteArray) : ByteArray := b.extract 0 (b.size - 4)
def backT (b : ByteArray) : ByteArray := b.extract (b.size - 4) b.size
/-- What Read tells of four bytes or more. -/
def fitsR (b : ByteArray) : Bool := (backT b).toList == (WI.fourT (sumT (frontT b))).toList

theorem read_short (b : ByteArray) (hb : b.size < 4) (w : World) : Calls Tryz.prog 90 #[.string b] w fun e w' => e = .returned (.tuple #[.string ByteArray.empty, .int .i64 5]) ∧ w = w' := by
  go_enter Tryz.func90, Tryz.ntmps90
  go_wp2
  go_ret2
  exact ⟨rfl, rfl⟩
theorem read_bad (b : ByteArray) (m : Nat) (hb : b.size = m + 4) (hs : b.size ≤ 1000000) (hf : fitsR b = false) (w : World) : Calls Tryz.prog 90 #[.string b] w fun e w' => e = .returned (.tuple #[.string ByteArray.empty, .int .i64 6]) ∧ Below w.heap.size w w' := by
  have h4 : (b.size : Int) - 4 = (m : Int) := by omega
  have hm0 : (0 : Int) ≤ (m : Int) := by omega
  have hm1 : (m : Int) ≤ (b.size : Int) := by omega
  have hts : (b.extract 0 m).size = m := by simp; omega
  obtain ⟨v, hv⟩ : ∃ v, sumT (b.extract 0 m) = v := ⟨_, rfl⟩
  have hbb := sumL_b (b.extract 0 m).data.toList
  have hof : ∀ {W : World} {g : Nat}, Blk W g 9 #[.string (b.extract 0 m)] → Calls Tryz.prog 103 #[.slice (some ⟨g, 0, none⟩) 1 1] W fun e w' => e = .returned (.int .u32 v) ∧ W = w' := fun h => hv ▸ of_blk (b.extract 0 m) (by rw [hts]; unfold maxLen; omega) h
  unfold fitsR backT frontT at hf
  rw [show b.size - 4 = m by omega] at hf
  rw [show sumL (b.extract 0 m).data.toList = v from hv] at hbb
  rw [hv] at hf
  have HB := Lib.hid hb
  have HT := Lib.hid hts
  clear hv hb hts
  go_enter Tryz.func90, Tryz.ntmps90
  go_wp2_with fail
  go_region_held3 (fun _ => True) (trivial) (first
    | (go_at_call 103; refine (hof (Blk.drew (Blk.new w _ _))).mono ?_; rintro e w' ⟨rfl, rfl⟩)
    | (go_at_call 102; refine (WI.four_any _ hbb.1 hbb.2 _).mono ?_; rintro e w2 ⟨rfl, hw2⟩))
  go_wp2_with fail
  go_ret2
  exact ⟨rfl, newThen hw2⟩
theorem read_ok (b : ByteArray) (m : Nat) (hb : b.size = m + 4) (hs : b.size ≤ 1000000) (hf : fitsR b = true) (w : World) : Calls Tryz.prog 90 #[.string b] w fun e w' => e = .returned (.tuple #[.string (b.extract 0 m), .int .i64 0]) ∧ Below w.heap.size w w' := by
  have h4 : (b.size : Int) - 4 = (m : Int) := by omega
  have hm0 : (0 : Int) ≤ (m : Int) := by omega
  have hm1 : (m : Int) ≤ (b.size : Int) := by omega
  have hts : (b.extract 0 m).size = m := by simp; omega
  have hcl := clone_any (b.extract 0 m) (by omega)
  obtain ⟨v, hv⟩ : ∃ v, sumT (b.extract 0 m) = v := ⟨_, rfl⟩
  have hbb := sumL_b (b.extract 0 m).data.toList
  have hof : ∀ {W : World} {g : Nat}, Blk W g 9 #[.string (b.extract 0 m)] → Calls Tryz.prog 103 #[.slice (some ⟨g, 0, none⟩) 1 1] W fun e w' => e = .returned (.int .u32 v) ∧ W = w' := fun h => hv ▸ of_blk (b.extract 0 m) (by rw [hts]; unfold maxLen; omega) h
  unfold fitsR backT frontT at hf
  rw [show b.size - 4 = m by omega] at hf
  rw [show sumL (b.extract 0 m).data.toList = v from hv] at hbb
  rw [hv] at hf
  have HB := Lib.hid hb
  have HT := Lib.hid hts
  clear hv hb hts
  go_enter Tryz.func90, Tryz.ntmps90
  go_wp2_with fail
  go_region_held3 (fun _ => True) (trivial) (first
    | (go_at_call 103; refine (hof (Blk.drew (Blk.new w _ _))).mono ?_; rintro e w' ⟨rfl, rfl⟩)
    | (go_at_call 102; refine (WI.four_any _ hbb.1 hbb.2 _).mono ?_; rintro e w2 ⟨rfl, hw2⟩))
  go_wp2_with (go_at_call 100; refine (hcl _).mono ?_; rintro e w3 ⟨rfl, hw3⟩)
  go_ret2
  have h2 : Below w.heap.size w w2 := newThen hw2
  exact ⟨rfl, h2.trans (hw3.mono h2.size)⟩
end Go.Proofs.YtakilnpfhljgfaaGreat.SM

/- sum.Stamp. No condition. -/
namespace Go.Proofs.YtakilnpfhljgfaaGreat.SM
set_option maxRecDepth 100000
open Go.RowKit
set_option linter.unusedVariables false

def zerosT (k : Nat) : ByteArray := ⟨(Lib.repeatL [0] k).toArray⟩
/-- A text and zeros behind it, n - 4 bytes. -/
def padT (s : ByteArray) (n : Nat) : ByteArray := s ++ zerosT (n - 4 - s.size)
def stampT (s : ByteArray) (n : Nat) : ByteArray := padT s n ++ WI.fourT (sumT (padT s n))

theorem stamp_arg (s : ByteArray) (n : Int) (h : n < 4 ∨ 60000 < n) (w : World) : Calls Tryz.prog 78 #[.string s, .int .i64 n] w fun e w' => e = .returned (.tuple #[.string ByteArray.empty, .int .i64 1]) ∧ w = w' := by
  by_cases h1 : n < 4
  · go_enter Tryz.func78, Tryz.ntmps78
    go_wp2
    go_ret2
    exact ⟨rfl, rfl⟩
  · have h2 : 60000 < n := by omega
    go_enter Tryz.func78, Tryz.ntmps78
    go_wp2
    go_ret2
    exact ⟨rfl, rfl⟩
theorem stamp_long (s : ByteArray) (n : Int) (h1 : ¬ n < 4) (h2 : ¬ 60000 < n) (h3 : n - 4 < (s.size : Int)) (w : World) : Calls Tryz.prog 78 #[.string s, .int .i64 n] w fun e w' => e = .returned (.tuple #[.string ByteArray.empty, .int .i64 2]) ∧ w = w' := by
  go_enter Tryz.func78, Tryz.ntmps78
  go_wp2
  go_ret2
  exact ⟨rfl, rfl⟩
theorem zerosT_size (k : Nat) : (zerosT k).size = k := by
  unfold zerosT
  simp [ByteArray.size, Lib.repeatL_length]
theorem stamp_ok (s : ByteArray) (n : Nat) (h1 : 4 ≤ n) (h2 : n ≤ 60000) (h3 : s.size ≤ n - 4) (w : World) : Calls Tryz.prog 78 #[.string s, .int .i64 (n : Int)] w fun e w' => e = .returned (.tuple #[.string (stampT s n), .int .i64 0]) ∧ Below w.heap.size w w' := by
  obtain ⟨k, hk⟩ : ∃ k : Nat, n - 4 - s.size = k := ⟨_, rfl⟩
  have hk2 : (n : Int) - 4 - (s.size : Int) = (k : Int) := by omega
  have hrep := Tryz.strings_Repeat (ByteArray.mk #[0]) k w (by omega) (by show 1 * k ≤ _; omega)
  have hrep2 : Calls Tryz.prog 87 #[.string (ByteArray.mk #[0]), .int .i64 ((n : Int) - 4 - (s.size : Int))] w fun e w' => e = .returned (.string (zerosT k)) ∧ Below w.heap.size w w' := by
    rw [hk2]; exact hrep
  have hsz := zerosT_size k
  obtain ⟨p, hp⟩ : ∃ p, s ++ zerosT k = p := ⟨_, rfl⟩
  have hps : p.size = s.size + k := by rw [← hp]; simp [hsz]
  have hpl : p.size ≤ 60000 := by omega
  have hbb := sumL_b p.data.toList
  have hpad : stampT s n = p ++ WI.fourT (sumT p) := by unfold stampT padT; rw [hk, hp]
  have hfz := fourT_size (sumL p.data.toList)
  have hkb : k ≤ 60000 := by omega
  have hsb : s.size ≤ 60000 := by omega
  have HP := Lib.hid hpad
  have HK := Lib.hid hk
  have HPS := Lib.hid hps
  have c1 : ¬ (n : Int) < 4 := by omega
  have c2 : ¬ (60000 : Int) < (n : Int) := by omega
  have c3 : ¬ (n : Int) - 4 < (s.size : Int) := by omega
  clear hrep hk hk2 hpad hps
  go_enter Tryz.func78, Tryz.ntmps78
  go_wp2_with (first
    | (go_at_call 87; refine hrep2.mono ?_; rintro e w1 ⟨rfl, hw1⟩)
    | (go_at_call 103; refine (of_one p (by unfold maxLen; omega) _).mono ?_; rintro e w' ⟨rfl, rfl⟩)
    | (go_at_call 102; refine (WI.four_any _ hbb.1 hbb.2 _).mono ?_; rintro e w2 ⟨rfl, hw2⟩))
  go_ret2
  refine ⟨by rw [HP.out]; rfl, hw1.trans ((((Below.refl _ _).alloc (Nat.le_refl _) _).trans (hw2.mono (by simp))).mono hw1.size)⟩
end Go.Proofs.YtakilnpfhljgfaaGreat.SM

/- commonslaw2.alive. No condition. -/
namespace Go.Proofs.YtakilnpfhljgfaaGreat.SM
set_option maxRecDepth 100000
open Go.RowKit
set_option linter.unusedVariables false

theorem crc9 : sumL [49, 50, 51, 52, 53, 54, 55, 56, 57] = 3421780262 := by decide +kernel
theorem ext_front (a b : ByteArray) : (a ++ b).extract 0 a.size = a := ByteArray.extract_append_eq_left rfl
theorem ext_back (a b : ByteArray) : (a ++ b).extract a.size (a ++ b).size = b := ByteArray.extract_append_eq_right rfl (by simp)
theorem open_seal (s : ByteArray) : 4 ≤ (sealT s).size ∧ (sealT s).size = s.size + 4 ∧ fits (sealT s) = true ∧ tailT (sealT s) = s := by
  have h4 := fourT_size (sumT s)
  have hz : (sealT s).size = s.size + 4 := by unfold sealT; simp [h4]; omega
  have hh : headT (sealT s) = WI.fourT (sumT s) := by
    have := ext_front (WI.fourT (sumT s)) s
    rw [h4] at this
    exact this
  have ht : tailT (sealT s) = s := by
    have := ext_back (WI.fourT (sumT s)) s
    rw [h4] at this
    exact this
  exact ⟨by omega, hz, by unfold fits; rw [hh, ht]; simp, ht⟩
theorem read_stamp (s : ByteArray) (n : Nat) (h1 : 4 ≤ n) (h3 : s.size ≤ n - 4) : (stampT s n).size = (n - 4) + 4 ∧ (padT s n).size = n - 4 ∧ fitsR (stampT s n) = true ∧ (stampT s n).extract 0 (n - 4) = padT s n := by
  have h4 := fourT_size (sumT (padT s n))
  have hp : (padT s n).size = n - 4 := by unfold padT; simp [zerosT_size]; omega
  have hz : (stampT s n).size = (n - 4) + 4 := by unfold stampT; simp [h4, hp]
  have hf : frontT (stampT s n) = padT s n := by
    have := ext_front (padT s n) (WI.fourT (sumT (padT s n)))
    unfold frontT
    rw [hz, show n - 4 + 4 - 4 = (padT s n).size by omega]
    exact this
  have hb : backT (stampT s n) = WI.fourT (sumT (padT s n)) := by
    have := ext_back (padT s n) (WI.fourT (sumT (padT s n)))
    unfold backT
    rw [show (stampT s n).size - 4 = (padT s n).size by omega]
    exact this
  refine ⟨hz, hp, by unfold fitsR; rw [hf, hb]; simp, ?_⟩
  rw [← hf]
  unfold frontT
  rw [hz]
  rfl
def Quiet (w : World) (e : Ending) (w' : World) : Prop := e = .returned (.bool true) ∧ Below w.heap.size w w'
abbrev tABC : ByteArray := ByteArray.mk #[97, 98, 99]
abbrev tA : ByteArray := ByteArray.mk #[97]
theorem of_alive (w : World) : Calls Tryz.prog 103 #[.slice (some ⟨w.heap.size, 0, none⟩) 2 2] (w.alloc (.cells #[.string (ByteArray.mk #[49, 50, 51, 52]), .string (ByteArray.mk #[53, 54, 55, 56, 57])] 9)) fun e w' =>
    e = .returned (.int .u32 3421780262) ∧ w.alloc (.cells #[.string (ByteArray.mk #[49, 50, 51, 52]), .string (ByteArray.mk #[53, 54, 55, 56, 57])] 9) = w' := by
  have h := of_any (some ⟨w.heap.size, 0, none⟩) 2 2 [ByteArray.mk #[49, 50, 51, 52], ByteArray.mk #[53, 54, 55, 56, 57]] _ (Lies.of_blk (Blk.new w 9 #[.string (ByteArray.mk #[49, 50, 51, 52]), .string (ByteArray.mk #[53, 54, 55, 56, 57])])) (by decide) (fun x hx => by
    have : x = ByteArray.mk #[49, 50, 51, 52] ∨ x = ByteArray.mk #[53, 54, 55, 56, 57] := by simpa using hx
    rcases this with rfl | rfl <;> decide)
  rw [show allB [ByteArray.mk #[49, 50, 51, 52], ByteArray.mk #[53, 54, 55, 56, 57]] = [49, 50, 51, 52, 53, 54, 55, 56, 57] from rfl, crc9] at h
  exact h
end Go.Proofs.YtakilnpfhljgfaaGreat.SM

/- The check sum tells one changed byte: plain laws, no program. No condition. -/
namespace Go.Proofs.YtakilnpfhljgfaaGreat
set_option maxRecDepth 100000
open Go.RowKit
set_option linter.unusedVariables false

theorem xor_u32 (a b : Nat) (ha : a < 4294967296) (hb : b < 4294967296) : bits .xor .u32 (a : Int) (b : Int) = ((a ^^^ b : Nat) : Int) := by
  have hx : a ^^^ b < 2 ^ 32 := Nat.xor_lt_two_pow (by omega) (by omega)
  show IntKind.u32.wrap ((BitVec.ofInt 32 (a : Int) ^^^ BitVec.ofInt 32 (b : Int)).toNat : Int) = _
  have e1 : (BitVec.ofInt 32 (a : Int)).toNat = a := by rw [BitVec.ofInt_natCast, BitVec.toNat_ofNat]; exact Nat.mod_eq_of_lt (by omega)
  have e2 : (BitVec.ofInt 32 (b : Int)).toNat = b := by rw [BitVec.ofInt_natCast, BitVec.toNat_ofNat]; exact Nat.mod_eq_of_lt (by omega)
  rw [BitVec.toNat_xor, e1, e2]
  simp only [IntKind.wrap, IntKind.bits, IntKind.signed]
  simp
  omega
def stepN (x : Nat) : Nat := if x % 2 = 1 then (x / 2) ^^^ 3988292384 else x / 2
theorem stepI_nat (x : Nat) (h : x < 4294967296) : stepI (x : Int) = (stepN x : Int) ∧ stepN x < 4294967296 := by
  unfold stepI stepN
  by_cases hx : x % 2 = 1
  · rw [if_pos (by omega), if_pos hx]
    have e : ((x : Int) / 2) = ((x / 2 : Nat) : Int) := by omega
    rw [e]
    have : x / 2 ^^^ 3988292384 < 2 ^ 32 := Nat.xor_lt_two_pow (by omega) (by omega)
    exact ⟨xor_u32 (x / 2) 3988292384 (by omega) (by omega), by omega⟩
  · rw [if_neg (by omega), if_neg hx]
    exact ⟨by omega, by omega⟩
theorem top_odd (y : Nat) (h : y < 2147483648) : (y ^^^ 3988292384).testBit 31 = true := by
  rw [Nat.testBit_xor, Nat.testBit_lt_two_pow (show y < 2 ^ 31 by omega)]
  decide
theorem xor_right_inj {a b c : Nat} (h : a ^^^ c = b ^^^ c) : a = b := by
  have := congrArg (· ^^^ c) h
  simpa [Nat.xor_assoc] using this
theorem stepN_inj {x y : Nat} (hx : x < 4294967296) (hy : y < 4294967296) (h : stepN x = stepN y) : x = y := by
  unfold stepN at h
  by_cases ox : x % 2 = 1 <;> by_cases oy : y % 2 = 1
  · rw [if_pos ox, if_pos oy] at h
    have := xor_right_inj h
    omega
  · rw [if_pos ox, if_neg oy] at h
    have t1 := top_odd (x / 2) (by omega)
    rw [h, Nat.testBit_lt_two_pow (show y / 2 < 2 ^ 31 by omega)] at t1
    cases t1
  · rw [if_neg ox, if_pos oy] at h
    have t1 := top_odd (y / 2) (by omega)
    rw [← h, Nat.testBit_lt_two_pow (show x / 2 < 2 ^ 31 by omega)] at t1
    cases t1
  · rw [if_neg ox, if_neg oy] at h
    omega
theorem stepI_inj {x y : Int} (hx : U32 x) (hy : U32 y) (h : stepI x = stepI y) : x = y := by
  unfold U32 at hx hy
  obtain ⟨a, rfl⟩ : ∃ a : Nat, x = (a : Int) := ⟨x.toNat, by omega⟩
  obtain ⟨b, rfl⟩ : ∃ b : Nat, y = (b : Int) := ⟨y.toNat, by omega⟩
  rw [(stepI_nat a (by omega)).1, (stepI_nat b (by omega)).1] at h
  have := stepN_inj (by omega) (by omega) (Int.ofNat.inj h)
  omega
theorem stepsI_inj (n : Nat) {x y : Int} (hx : U32 x) (hy : U32 y) (h : stepsI n x = stepsI n y) : x = y := by
  induction n with
  | zero => exact h
  | succ n ih => exact ih (stepI_inj (stepsI_r n hx) (stepsI_r n hy) h)
theorem xorb {x : Int} (hx : U32 x) (b : UInt8) : bits .xor .u32 x (b.toNat : Int) = ((x.toNat ^^^ b.toNat : Nat) : Int) := by
  unfold U32 at hx
  have := xor_u32 x.toNat b.toNat (by omega) (by have := b.toNat_lt; omega)
  rwa [show ((x.toNat : Nat) : Int) = x by omega] at this
theorem crcB_state {x y : Int} (hx : U32 x) (hy : U32 y) (b : UInt8) (h : crcB x b = crcB y b) : x = y := by
  have h1 := stepsI_inj 8 (bits_u32 _ _ _ (.inl rfl)) (bits_u32 _ _ _ (.inl rfl)) h
  rw [xorb hx, xorb hy] at h1
  have := xor_right_inj (Int.ofNat.inj h1)
  unfold U32 at hx hy
  omega
theorem crcB_byte {x : Int} (hx : U32 x) {b c : UInt8} (h : crcB x b = crcB x c) : b = c := by
  have h1 := stepsI_inj 8 (bits_u32 _ _ _ (.inl rfl)) (bits_u32 _ _ _ (.inl rfl)) h
  rw [xorb hx, xorb hx] at h1
  have h2 := Int.ofNat.inj h1
  rw [Nat.xor_comm, Nat.xor_comm x.toNat] at h2
  exact UInt8.toNat_inj.1 (xor_right_inj h2)
theorem crcL_state (l : List UInt8) {x y : Int} (hx : U32 x) (hy : U32 y) (h : crcL x l = crcL y l) : x = y := by
  induction l generalizing x y with
  | nil => exact h
  | cons b l ih => exact crcB_state hx hy b (ih (crcB_r x b) (crcB_r y b) h)
/-- Where one byte is another one the sum is another one. -/
theorem sumL_set (l : List UInt8) (p : Nat) (hp : p < l.length) (c : UInt8) (hc : c ≠ l[p]) : sumL (l.set p c) ≠ sumL l := by
  intro h
  have h0 : U32 4294967295 := by unfold U32; omega
  have h1 : crcL 4294967295 (l.set p c) = crcL 4294967295 l := by unfold sumL at h; omega
  have e1 : l = l.take p ++ l[p] :: l.drop (p + 1) := by simp
  have e2 : l.set p c = l.take p ++ c :: l.drop (p + 1) := List.set_eq_take_append_cons_drop.trans (by rw [if_pos hp])
  rw [e2] at h1
  conv at h1 => rhs; rw [e1]
  rw [crcL_app, crcL_app] at h1
  have h2 := crcL_state (l.drop (p + 1)) (crcB_r _ _) (crcB_r _ _) h1
  exact hc (crcB_byte (crcL_r h0 _) h2)
end Go.Proofs.YtakilnpfhljgfaaGreat

/- What was sealed, or stamped, and then turned in one byte does not fit. Plain laws. No condition. -/
namespace Go.Proofs.YtakilnpfhljgfaaGreat.SM
set_option maxRecDepth 100000
open Go.RowKit
set_option linter.unusedVariables false

theorem fourT_data (v : Int) : (WI.fourT v).data.toList = (WI.lowB v 4).map fun n => UInt8.ofNat n.toNat := rfl
theorem fourT_inj {u v : Int} (hu : 0 ≤ u ∧ u ≤ 4294967295) (hv : 0 ≤ v ∧ v ≤ 4294967295) (h : (WI.fourT u).data.toList = (WI.fourT v).data.toList) : u = v := by
  rw [fourT_data, fourT_data] at h
  have byte : ∀ {a b : Int}, 0 ≤ a → a < 256 → 0 ≤ b → b < 256 → UInt8.ofNat a.toNat = UInt8.ofNat b.toNat → a = b := by
    intro a b h1 h2 h3 h4 he
    have := congrArg UInt8.toNat he
    simp at this
    omega
  simp only [WI.lowB, List.map_cons, List.map_nil, List.cons.injEq, and_true] at h
  obtain ⟨h0, h1, h2, h3⟩ := h
  have k0 := byte (by omega) (by omega) (by omega) (by omega) h0
  have k1 := byte (by omega) (by omega) (by omega) (by omega) h1
  have k2 := byte (by omega) (by omega) (by omega) (by omega) h2
  have k3 := byte (by omega) (by omega) (by omega) (by omega) h3
  omega
theorem fourT_len (v : Int) : (WI.fourT v).data.toList.length = 4 := by rw [fourT_data]; simp [WI.lowB]
theorem toList_ne {a b : ByteArray} (h : a.data.toList ≠ b.data.toList) : (a.toList == b.toList) = false := by
  rw [ByteArray.toList_eq, ByteArray.toList_eq]
  exact beq_eq_false_iff_ne.2 h
def setT (b : ByteArray) (p : Nat) (d : UInt8) : ByteArray := ⟨(b.data.toList.set p d).toArray⟩
theorem setT_data (b : ByteArray) (p : Nat) (d : UInt8) : (setT b p d).data.toList = b.data.toList.set p d := rfl
theorem setT_size (b : ByteArray) (p : Nat) (d : UInt8) : (setT b p d).size = b.size := by
  show (setT b p d).data.size = b.data.size
  rw [← Array.length_toList, setT_data, List.length_set, Array.length_toList]
theorem app_data (a b : ByteArray) : (a ++ b).data.toList = a.data.toList ++ b.data.toList := by simp
theorem ext_data (b : ByteArray) (i j : Nat) : (b.extract i j).data.toList = (b.data.toList.drop i).take (j - i) := by simp
theorem ne_set {l : List UInt8} {p : Nat} (hp : p < l.length) {d : UInt8} (hd : l[p]? ≠ some d) : l.set p d ≠ l := by
  intro h
  apply hd
  rw [← h, List.getElem?_set_self hp]

theorem fits_set (s : ByteArray) (p : Nat) (hp : p < s.size + 4) (d : UInt8) (hd : (sealT s).data.toList[p]? ≠ some d) : fits (setT (sealT s) p d) = false := by
  have hz := (open_seal s).2.1
  have hl : (sealT s).data.toList = (WI.fourT (sumT s)).data.toList ++ s.data.toList := app_data _ _
  have h4 := fourT_len (sumT s)
  unfold fits
  apply toList_ne
  unfold headT tailT
  rw [setT_size, hz, ext_data, setT_data, hl]
  show _ ≠ (WI.fourT (sumL ((setT (sealT s) p d).extract 4 (s.size + 4)).data.toList)).data.toList
  rw [ext_data, setT_data, hl]
  rw [hl] at hd
  by_cases hlt : p < 4
  · rw [List.set_append_left _ _ (by omega)]
    rw [show s.size + 4 - 4 = s.size by omega, List.drop_zero, show 4 - 0 = 4 from rfl, List.take_append_of_le_length (by simp [h4]), List.take_of_length_le (by simp [h4])]
    rw [List.drop_append_of_le_length (by simp [h4]), List.drop_of_length_le (by simp [h4]), List.nil_append, List.take_of_length_le (by simp)]
    rw [List.getElem?_append_left (by omega)] at hd
    exact ne_set (by omega) hd
  · rw [List.set_append_right _ _ (by omega), h4]
    rw [show s.size + 4 - 4 = s.size by omega, List.drop_zero, show 4 - 0 = 4 from rfl, List.take_append_of_le_length (by omega), List.take_of_length_le (by omega)]
    rw [List.drop_append_of_le_length (by omega), List.drop_of_length_le (by omega), List.nil_append, List.take_of_length_le (by simp)]
    rw [List.getElem?_append_right (by omega), h4] at hd
    intro h
    have := fourT_inj (sumL_b _) (sumL_b _) h
    have hpl : p - 4 < s.data.toList.length := by simp; omega
    refine sumL_set s.data.toList (p - 4) hpl d (fun e => hd ?_) this.symm
    rw [List.getElem?_eq_getElem hpl, e]
theorem fitsR_set (s : ByteArray) (n : Nat) (h1 : 4 ≤ n) (h3 : s.size ≤ n - 4) (p : Nat) (hp : p < n) (d : UInt8) (hd : (stampT s n).data.toList[p]? ≠ some d) : fitsR (setT (stampT s n) p d) = false := by
  obtain ⟨hz, hpz, _, _⟩ := read_stamp s n h1 h3
  have hl : (stampT s n).data.toList = (padT s n).data.toList ++ (WI.fourT (sumT (padT s n))).data.toList := app_data _ _
  have h4 := fourT_len (sumT (padT s n))
  have hpl : (padT s n).data.toList.length = n - 4 := by rw [← hpz]; exact Array.length_toList
  generalize padT s n = P at hl h4 hpl
  generalize hsum : sumT P = v at hl h4
  unfold fitsR
  apply toList_ne
  unfold backT
  show _ ≠ (WI.fourT (sumL (frontT (setT (stampT s n) p d)).data.toList)).data.toList
  unfold frontT
  rw [setT_size, hz, show n - 4 + 4 - 4 = n - 4 by omega, show n - 4 + 4 = n by omega, ext_data, ext_data, setT_data, hl]
  rw [hl] at hd
  by_cases hlt : p < n - 4
  · rw [List.set_append_left _ _ (by omega)]
    rw [List.drop_append_of_le_length (by simp [hpl]), List.drop_of_length_le (by simp [hpl]), List.nil_append, List.take_of_length_le (by omega)]
    rw [List.drop_zero, Nat.sub_zero, List.take_append_of_le_length (by simp [hpl]), List.take_of_length_le (by simp [hpl])]
    rw [List.getElem?_append_left (by omega)] at hd
    intro h
    have := fourT_inj (by rw [← hsum]; exact sumL_b _) (sumL_b _) h
    rw [← hsum] at this
    refine sumL_set P.data.toList p (by omega) d (fun e => hd ?_) this.symm
    rw [List.getElem?_eq_getElem (by omega), e]
  · rw [List.set_append_right _ _ (by omega), hpl]
    rw [List.drop_append_of_le_length (by omega), List.drop_of_length_le (by omega), List.nil_append, List.take_of_length_le (by simp [h4]; omega)]
    rw [List.drop_zero, Nat.sub_zero, List.take_append_of_le_length (by omega), List.take_of_length_le (by omega)]
    rw [List.getElem?_append_right (by omega), hpl] at hd
    rw [show sumL P.data.toList = v from hsum]
    exact ne_set (by omega) hd
end Go.Proofs.YtakilnpfhljgfaaGreat.SM

/- super: Put. No condition. -/
namespace Go.Proofs.YtakilnpfhljgfaaGreat.SU
set_option maxRecDepth 100000
open Go.RowKit Go.Proofs.YtakilnpfhljgfaaGreat.WI Go.Proofs.YtakilnpfhljgfaaGreat.SM
set_option linter.unusedVariables false
set_option linter.unusedSimpArgs false

/-- A writer, and a row of numbers beside it. -/
def Wr3 (W : World) (B g gb : Nat) (cs : Array Value) (bs : List Int) (w : World) : Prop := Wr W B g bs w ∧ Blk w gb 3 cs ∧ gb ≠ g
set_option maxRecDepth 100000 in
set_option maxHeartbeats 1600000 in
theorem num_any3 {W w : World} {B g gb : Nat} {cs : Array Value} {bs : List Int} (h : Wr3 W B g gb cs bs w) (hbl : bs.length ≤ 1000000) (v : Int) (h0 : 0 ≤ v) (h1 : v ≤ 18446744073709551615) (n : Nat) (hn8 : n ≤ 8)
    (hw : Calls Tryz.prog 110 #[.int .u64 v, .int .i64 (n : Int)] w fun e w' => e = .returned (.int .i64 0) ∧ w = w') :
    Calls Tryz.prog 98 #[.pointer (some ⟨g, 0, none⟩), .int .u64 v, .int .i64 (n : Int)] w fun e w' => e = .returned (.pointer (some ⟨g, 0, none⟩)) ∧ Wr3 W B g gb cs (bs ++ lowB v n) w' := by
  obtain ⟨i0, hi, hz0, hz1, hz2⟩ := info_parts infoB
  obtain ⟨⟨a, c, hb, ho, hB, hBg⟩, hq, hqg⟩ := h
  have hf := fails_ok hb
  go_enter Tryz.func98, Tryz.ntmps98
  go_wp2_with (first
    | (go_at_call 110; refine hw.mono ?_; rintro e w' ⟨rfl, rfl⟩)
    | (go_at_call 114; refine hf.mono ?_; rintro e w2 ⟨rfl, hb2, hk2⟩))
  have hq2 : Blk w2 gb 3 cs := hq.keeps hk2 (fun e => hqg e)
  have h2 : Wr3 W B g gb cs (bs ++ lowB v 0) w2 := by
    refine ⟨?_, hq2, hqg⟩
    rw [show bs ++ lowB v 0 = bs from List.append_nil _]
    exact ⟨a, c, hb2, own_keeps ho hk2 (fun k h3 h4 => own_ne ho hb (by decide) (by rw [h3, show k = g from h4])), hk2.after hB (fun k hk => by rw [show k = g from hk]; exact hBg) (by have := hb.lt; omega), hBg⟩
  have H2 := Lib.hid h2
  clear hw hb ho hB hf hb2 hk2 h2 hq hq2
  go_loopw [1, 18] (fun x i wr => ∃ k : Nat, k ≤ n ∧ i = .int .i64 (k : Int) ∧ x = .int .u64 (shr8 v k) ∧ Hid (Wr3 W B g gb cs (bs ++ lowB v k) wr)) (fun _ i _ => n - (intOf i).toNat)
  case atStart => exact ⟨0, by omega, rfl, rfl, H2⟩
  case round =>
    obtain ⟨k, hk, rfl, rfl, hwr⟩ := hrel
    clear H2
    by_cases hlt : k < n
    · obtain ⟨⟨a, c, hb, ho, hB, _⟩, hq, _⟩ := hwr.out
      have HQ := Lib.hid hq
      clear hq
      have hs8 := shr8_b h0 (by omega) k
      have hsn : (bs ++ lowB v k) ++ [shr8 v k % 256] = bs ++ lowB v (k + 1) := by rw [lowB_snoc, List.append_assoc]
      have HS := Lib.hid hsn
      have hll : (bs ++ lowB v k).length ≤ 1000008 := by rw [List.length_append, lowB_len]; omega
      obtain ⟨xs, hxs⟩ : ∃ xs, bs ++ lowB v k = xs := ⟨_, rfl⟩
      rw [hxs] at hb ho hll HS
      obtain ⟨L, hL⟩ : ∃ L, xs.length = L := ⟨_, rfl⟩
      have c0 : wr.cell? ⟨g, 0, none⟩ = some (.slice a xs.length c) := hb.cell 0
      have HW := Lib.hid (show Blk wr g 141 #[.slice a xs.length c, .int .i64 0] ∧ wr.ownsRow B 5 1 (.slice a xs.length c) xs.length (xs.map byteV) ∧ Below B W wr from ⟨hb, ho, hB⟩)
      rw [hL] at ho c0 hll
      have ho1 := ho.alloc (.cells #[.int .u8 (shr8 v k % 256)] 5)
      have hBw : B ≤ (wr.alloc (.cells #[.int .u8 (shr8 v k % 256)] 5)).heap.size := by have := hb.lt; simp; omega
      have HO := Lib.hid (shr8_out v k)
      have HL := Lib.hid hL
      clear hb ho hB hL hxs hsn hwr
      go_wp2_with (at_builtin; refine wpList_append_lie _ rfl _ _ 84 rfl B 5 i0 _ 1 1 Tryz.underlying84 hi hz0 hz1 hz2 rfl (by decide) a L c (xs.map byteV) rfl ho1 (some ⟨wr.heap.size, 0, none⟩) 1 1 [.int .u8 (shr8 v k % 256)] rfl (Lies.of_blk (cs := #[.int .u8 (shr8 v k % 256)]) (Blk.new _ _ _)) (by simp [Value.oneCell']) (by unfold maxLen; omega) (by omega) hBw ?_; intro a2 cp2 w2 hown2 hg2 hat2
                   have m2 := Wr.push (x := shr8 v k % 256) (a2 := a2) (c2 := cp2) HW.out.1 HW.out.2.1 HW.out.2.2 hBg (by rw [HL.out]; exact hown2) hg2
                   rw [HL.out, HS.out] at m2
                   have hne3 := own_ne HW.out.2.1 HQ.out (by decide)
                   rw [own_blk_] at hne3
                   have q2 : Blk w2 gb 3 cs := (HQ.out.alloc _).grown hg2 (fun e => hne3 e.symm)
                   have q3 := q2.keeps (keep1 w2 g 0 (.slice a2 (L + 1) cp2)) (fun e => hqg e)
                   have M2 : Hid (Wr3 W B g gb cs (bs ++ lowB v (k + 1)) (w2.setCell ⟨g, 0, none⟩ (.slice a2 (L + 1) cp2))) := Lib.hid ⟨m2.2, q3, hqg⟩
                   have c2 : w2.cell? ⟨g, 0, none⟩ = some (.slice a L c) := m2.1.cell 0
                   have f2 := m2.1.frozen 0
                   clear hown2 hg2 hat2 ho1 m2 c0 q2 q3 hne3)
      go_roundw
      case rel => exact ⟨k + 1, by omega, by go_num, by rw [HO.out], M2⟩
      case measure => simp [intOf]; omega
    · obtain rfl : k = n := by omega
      go_wp2
      go_ret
      exact ⟨rfl, hwr.out⟩
def fld (s : Sh) (k : Nat) : Int := [s.n, s.b, s.l, s.c, s.e].getD k 0
def numL (s : Sh) : Nat → List Int
  | 0 => []
  | k + 1 => numL s k ++ lowB (fld s k) 4
theorem numL_len (s : Sh) (k : Nat) : (numL s k).length = 4 * k := by
  induction k with
  | zero => rfl
  | succ k ih => unfold numL; rw [List.length_append, ih, lowB_len]; omega
def superB (s : Sh) : ByteArray := ⟨#[67, 79, 77, 77, 79, 78, 83, 49]⟩ ++ strOfNums (numL s 5)
def superT (s : Sh) : ByteArray := stampT (superB s) 64
theorem superB_size (s : Sh) : (superB s).size = 28 := by
  unfold superB
  rw [ByteArray.size_append, strOf_size, numL_len]
  rfl
theorem fld_ok {s : Sh} (h : Good s) (k : Nat) (hk : k < 5) : 0 ≤ fld s k ∧ fld s k ≤ 4096 := by
  have h1 := h.n; have h2 := h.b; have h3 := h.l; have h4 := h.c; have h5 := h.e
  rcases (by omega : k = 0 ∨ k = 1 ∨ k = 2 ∨ k = 3 ∨ k = 4) with rfl | rfl | rfl | rfl | rfl <;> simp [fld] <;> omega
theorem put_bad (s : Sh) (h : validB s = false) (w : World) : Calls Tryz.prog 83 #[sagg s] w fun e w' => e = .returned (.tuple #[.string ⟨#[]⟩, .int .i64 1]) ∧ Below w.heap.size w w' := by
  have kv := fun W => valid_any s W
  rw [h] at kv
  unfold sagg at *
  clear h
  go_enter Tryz.func83, Tryz.ntmps83
  go_wp2_with (go_at_call 55; refine (kv _).mono ?_; rintro x w1 ⟨rfl, hb1⟩; have HB1 := Lib.hid hb1; clear hb1)
  go_ret2
  exact ⟨rfl, belowThen (belowNew (belowSame w) _) HB1.out⟩
set_option maxHeartbeats 8000000 in
theorem put_ok (s : Sh) (h : Good s) (w : World) : Calls Tryz.prog 83 #[sagg s] w fun e w' => e = .returned (.tuple #[.string (superT s), .int .i64 0]) ∧ Below w.heap.size w w' := by
  have hv := (valid_iff s).2 h
  have kv := fun W => valid_any s W
  rw [hv] at kv
  have hfk := fun k hk => fld_ok h k hk
  have ks := fun W => stamp_ok (superB s) 64 (by omega) (by omega) (by rw [superB_size]; omega) W
  have hx : superT s = stampT (superB s) 64 := rfl
  rw [hx]
  obtain ⟨T, hT⟩ : ∃ T, stampT (superB s) 64 = T := ⟨_, rfl⟩
  rw [hT] at ks ⊢
  obtain ⟨U, hU⟩ : ∃ U, strOfNums (numL s 5) = U := ⟨_, rfl⟩
  have hUs : U.size = 20 := by rw [← hU, strOf_size, numL_len]
  have hB : superB s = ⟨#[67, 79, 77, 77, 79, 78, 83, 49]⟩ ++ U := by rw [← hU]; rfl
  rw [hB] at ks
  have HU := Lib.hid hU
  have hz3 : ¬ 9223372036854775807 < 8 + U.size := by omega
  have hz2 : ¬ 9223372036854775807 < (⟨#[67, 79, 77, 77, 79, 78, 83, 49]⟩ : ByteArray).size + U.size := by show ¬ _ < 8 + U.size; omega
  have hfs : (List.range 5).map (fld s) = [s.n, s.b, s.l, s.c, s.e] := rfl
  have hcl : ∀ k, k < 5 → (scells s)[k]? = some (.int .i64 (fld s k)) := fun k hk => by
    rcases (by omega : k = 0 ∨ k = 1 ∨ k = 2 ∨ k = 3 ∨ k = 4) with rfl | rfl | rfl | rfl | rfl <;> rfl
  have HFK := Lib.hid hfk
  have HCL := Lib.hid hcl
  have hbn := Blk.new w TSh (scells s)
  have hb0 := (Below.refl _ w).alloc (Nat.le_refl _) (.cells (scells s) TSh)
  have HBN := Lib.hid hbn
  have HB0 := Lib.hid hb0
  clear hbn hb0 hv h hx hT hU hUs hB hfk hcl hfs
  unfold sagg
  go_enter Tryz.func83, Tryz.ntmps83
  go_upto_region 4 with (go_at_call 55; refine (kv _).mono ?_; rintro x w1 ⟨rfl, hb1⟩; have HB1 := Lib.hid (HB0.out.trans (hb1.mono HB0.out.size)); have bk := HBN.out.below hb1 HBN.out.lt; have HBK := Lib.hid bk; clear bk hb1)
  have hW := wr_new w1
  have hbk2 := HBK.out.below (belowNew (belowSame w1) (.cells #[.slice none 0 0, .int .i64 0] 141)) HBK.out.lt
  obtain ⟨W2, hW2⟩ : ∃ W2, w1.alloc (.cells #[.slice none 0 0, .int .i64 0] 141) = W2 := ⟨_, rfl⟩
  have hsz : W2.heap.size = w1.heap.size + 1 := by rw [← hW2]; simp
  rw [hW2] at hW hbk2 ⊢
  have c0 : W2.cell? ⟨w.heap.size, 0, none⟩ = some (.int .i64 s.n) := hbk2.cell 0
  have c1 : W2.cell? ⟨w.heap.size, 1, none⟩ = some (.int .i64 s.b) := hbk2.cell 1
  have c2 : W2.cell? ⟨w.heap.size, 2, none⟩ = some (.int .i64 s.l) := hbk2.cell 2
  have c3 : W2.cell? ⟨w.heap.size, 3, none⟩ = some (.int .i64 s.c) := hbk2.cell 3
  have c4 : W2.cell? ⟨w.heap.size, 4, none⟩ = some (.int .i64 s.e) := hbk2.cell 4
  obtain ⟨g, hg⟩ : ∃ g, w1.heap.size = g := ⟨_, rfl⟩
  have H3 : Hid (Wr3 w1 w1.heap.size w1.heap.size (w1.heap.size + 1) (scells s) [] (W2.alloc (.cells (scells s) 3))) := Lib.hid ⟨by
    obtain ⟨a, c, h1, h2, h3, h4⟩ := hW
    exact ⟨a, c, h1.alloc _, h2.alloc _, h3.alloc (by omega) _, h4⟩, hsz ▸ Blk.new W2 3 (scells s), by omega⟩
  rw [hg] at H3 ⊢
  have HG := Lib.hid hg
  have HSZ : Hid (W2.heap.size = g + 1) := Lib.hid (by omega)
  clear hW hbk2 hW2 hsz hg
  go_upto_region 5 with fail
  rw [HSZ.out]
  clear c0 c1 c2 c3 c4
  go_loopw [6, 24] (fun _ i wr => ∃ k : Nat, i = .int .i64 (k : Int) ∧ k ≤ 5 ∧ Hid (Wr3 w1 g g (g + 1) (scells s) (numL s k) wr)) (fun _ i _ => 5 - (intOf i).toNat)
  case atStart => exact ⟨0, rfl, by omega, H3⟩
  case round =>
    obtain ⟨k, rfl, hk, HW⟩ := hrel
    by_cases hlt : k < 5
    · have hfk := HFK.out k hlt
      have hce : wr.cell? ⟨g + 1, k, none⟩ = some (.int .i64 (fld s k)) := by rw [HW.out.2.1.cell]; exact HCL.out k hlt
      have hnl : numL s (k + 1) = numL s k ++ lowB (fld s k) 4 := rfl
      have HNL := Lib.hid hnl
      have e1 : IntKind.i64.wrap ((k : Int) + 1) = (k : Int) + 1 := IntWalk.i64_in _ (by omega)
      have e2 : IntKind.u64.wrap (fld s k) = fld s k := IntWalk.u64_in _ (by omega)
      have kn := fun W (h : Wr3 w1 g g (g + 1) (scells s) (numL s k) W) => num_any3 h (by rw [numL_len]; omega) (fld s k) hfk.1 (by omega) 4 (by omega) (wrong4 (fld s k) hfk.1 (by omega) W)
      clear hnl hfk
      go_wp2_with (go_at_call 98; refine (kn _ HW.out).mono ?_; rintro x w5 ⟨rfl, h5⟩; have HW5 := Lib.hid h5; clear h5)
      go_roundw
      case rel => exact ⟨k + 1, by go_num, by omega, by rw [HNL.out]; exact HW5⟩
      case measure => simp [intOf]; omega
    · obtain rfl : k = 5 := by omega
      have kb := bytes_any HW.out.1 (by rw [numL_len]; omega)
      rw [HU.out] at kb
      have hb5 := HW.out.1.bel
      have HB5 := Lib.hid hb5
      clear hb5 HW
      go_wp2_with (first
        | (go_at_call 99; (with_reducible refine kb.mono ?_); rintro x w6 ⟨rfl, rfl⟩)
        | (go_at_call 78; refine (ks _).mono ?_; rintro x w7 ⟨rfl, h7⟩; have H7 := Lib.hid h7; clear h7))
      go_ret2
      have hA := HB1.out.trans ((show Below w1.heap.size w1 _ from HG.out ▸ HB5.out).mono HB1.out.size)
      exact ⟨rfl, hA.trans (H7.out.mono hA.size)⟩
end Go.Proofs.YtakilnpfhljgfaaGreat.SU

/- super: Get. No condition. -/
namespace Go.Proofs.YtakilnpfhljgfaaGreat.SU
set_option maxRecDepth 100000
open Go.RowKit Go.Proofs.YtakilnpfhljgfaaGreat.WI Go.Proofs.YtakilnpfhljgfaaGreat.SM
set_option linter.unusedVariables false
set_option linter.unusedSimpArgs false

def U8 (l : List Int) : List UInt8 := l.map fun x => UInt8.ofNat x.toNat
theorem rd_step {X : ByteArray} {v : Int} {k : Nat} {R : List UInt8} (h : X.data.toList = U8 (lowB v k) ++ R) (h0 : 0 ≤ v) (h1 : v < ((256 ^ k : Nat) : Int)) :
    leL (X.extract 0 k).data.toList = v ∧ (X.extract k X.size).data.toList = R ∧ k ≤ X.size := by
  have hl : (U8 (lowB v k)).length = k := by unfold U8; rw [List.length_map, lowB_len]
  have hsz : X.size = k + R.length := by
    show X.data.size = _
    rw [← Array.length_toList, h, List.length_append, hl]
  refine ⟨?_, ?_, by omega⟩
  · rw [ByteArray.data_extract, Array.toList_extract, List.extract_eq_take_drop, h, Nat.sub_zero, List.drop_zero, List.take_left' hl]
    exact le_low v k h0 h1
  · rw [ByteArray.data_extract, Array.toList_extract, List.extract_eq_take_drop, h, List.drop_left' hl, hsz, show k + R.length - k = R.length by omega, List.take_length]
theorem strOf_data (l : List Int) : (strOfNums l).data.toList = U8 l := rfl
theorem U8_app (a b : List Int) : U8 (a ++ b) = U8 a ++ U8 b := List.map_append
theorem app_dat (a b : ByteArray) : (a ++ b).data.toList = a.data.toList ++ b.data.toList := by simp
abbrev TArr : TypeId := 132
def XF (X : ByteArray) : Nat → ByteArray
  | 0 => X
  | k + 1 => (XF X k).extract 4 (XF X k).size
theorem superT_size (s : Sh) : (superT s).size = 64 := (read_stamp (superB s) 64 (by omega) (by rw [superB_size]; omega)).1
theorem superT_fits (s : Sh) : fitsR (superT s) = true := (read_stamp (superB s) 64 (by omega) (by rw [superB_size]; omega)).2.2.1
theorem superT_front (s : Sh) : (superT s).extract 0 60 = padT (superB s) 64 := (read_stamp (superB s) 64 (by omega) (by rw [superB_size]; omega)).2.2.2
theorem super_rest (s : Sh) : ∃ R, (((superT s).extract 0 60).extract 8 60).data.toList = U8 (lowB (fld s 0) 4) ++ (U8 (lowB (fld s 1) 4) ++ (U8 (lowB (fld s 2) 4) ++ (U8 (lowB (fld s 3) 4) ++ (U8 (lowB (fld s 4) 4) ++ R)))) := by
  refine ⟨(zerosT (64 - 4 - (superB s).size)).data.toList, ?_⟩
  rw [superT_front, SM.ext_data]
  have hz : (zerosT (64 - 4 - (superB s).size)).data.toList.length = 32 := by
    have h0 : (zerosT (64 - 4 - (superB s).size)).data.toList.length = (zerosT (64 - 4 - (superB s).size)).size := Array.length_toList
    rw [h0, zerosT_size, superB_size]
  unfold padT
  generalize (zerosT (64 - 4 - (superB s).size)) = Z at *
  have hd0 : (superB s).data.toList = [67, 79, 77, 77, 79, 78, 83, 49] ++ U8 (numL s 5) := by unfold superB; rw [app_dat, strOf_data]
  rw [app_dat, hd0, List.append_assoc]
  have hd : ∀ Y : List UInt8, List.drop 8 ([67, 79, 77, 77, 79, 78, 83, 49] ++ Y) = Y := fun _ => rfl
  have hn : (U8 (numL s 5)).length = 20 := by unfold U8; rw [List.length_map, numL_len]
  rw [hd, List.take_of_length_le (by rw [List.length_append, hn, hz]; omega)]
  show U8 (((((([] : List Int) ++ lowB (fld s 0) 4) ++ lowB (fld s 1) 4) ++ lowB (fld s 2) 4) ++ lowB (fld s 3) 4) ++ lowB (fld s 4) 4) ++ Z.data.toList = _
  rw [U8_app, U8_app, U8_app, U8_app, List.nil_append]
  simp only [List.append_assoc]
theorem steps {s : Sh} (h : Good s) {X : ByteArray} {R : List UInt8} (hs : X.size ≤ 60) (hX : X.data.toList = U8 (lowB (fld s 0) 4) ++ (U8 (lowB (fld s 1) 4) ++ (U8 (lowB (fld s 2) 4) ++ (U8 (lowB (fld s 3) 4) ++ (U8 (lowB (fld s 4) 4) ++ R))))) :
    ∀ k, k < 5 → leL ((XF X k).extract 0 4).data.toList = fld s k ∧ 4 ≤ (XF X k).size ∧ (XF X k).size ≤ 60 := by
  have hb : ∀ k, k < 5 → 0 ≤ fld s k ∧ fld s k < ((256 ^ 4 : Nat) : Int) := fun k hk => by have := fld_ok h k hk; rw [show (256 : Nat) ^ 4 = 4294967296 from rfl]; omega
  obtain ⟨a0, b0, c0⟩ := rd_step hX (hb 0 (by omega)).1 (hb 0 (by omega)).2
  obtain ⟨a1, b1, c1⟩ := rd_step (X := XF X 1) b0 (hb 1 (by omega)).1 (hb 1 (by omega)).2
  obtain ⟨a2, b2, c2⟩ := rd_step (X := XF X 2) b1 (hb 2 (by omega)).1 (hb 2 (by omega)).2
  obtain ⟨a3, b3, c3⟩ := rd_step (X := XF X 3) b2 (hb 3 (by omega)).1 (hb 3 (by omega)).2
  obtain ⟨a4, b4, c4⟩ := rd_step (X := XF X 4) b3 (hb 4 (by omega)).1 (hb 4 (by omega)).2
  have hz : ∀ k, (XF X k).size ≤ 60 := fun k => by
    induction k with
    | zero => exact hs
    | succ k ih => show ((XF X k).extract 4 (XF X k).size).size ≤ 60; rw [ByteArray.size_extract]; omega
  intro k hk
  rcases (by omega : k = 0 ∨ k = 1 ∨ k = 2 ∨ k = 3 ∨ k = 4) with rfl | rfl | rfl | rfl | rfl
  · exact ⟨a0, c0, hz 0⟩
  · exact ⟨a1, c1, hz 1⟩
  · exact ⟨a2, c2, hz 2⟩
  · exact ⟨a3, c3, hz 3⟩
  · exact ⟨a4, c4, hz 4⟩
def arrC (s : Sh) (k : Nat) : Array Value := #[.int .i64 (if 0 < k then fld s 0 else 0), .int .i64 (if 1 < k then fld s 1 else 0), .int .i64 (if 2 < k then fld s 2 else 0), .int .i64 (if 3 < k then fld s 3 else 0), .int .i64 (if 4 < k then fld s 4 else 0)]
theorem arr_set (s : Sh) (k : Nat) (hk : k < 5) : (arrC s k).setIfInBounds k (.int .i64 (fld s k)) = arrC s (k + 1) := by
  rcases (by omega : k = 0 ∨ k = 1 ∨ k = 2 ∨ k = 3 ∨ k = 4) with rfl | rfl | rfl | rfl | rfl <;> rfl
set_option maxHeartbeats 4000000 in
/-- Of one sector that does not fit. -/
theorem get_bad (b : ByteArray) (hsz : b.size = 64) (hf : fitsR b = false) (w : World) :
    Calls Tryz.prog 63 #[.string b] w fun x w' => x = .returned (.tuple #[sagg ⟨0, 0, 0, 0, 0⟩, .int .i64 6]) ∧ Below w.heap.size w w' := by
  have kr := fun W => read_bad b 60 hsz (by omega) hf W
  have hs64 : (b.size : Int) = 64 := by omega
  clear hf hsz
  unfold sagg
  have hbn := Blk.new w TSh #[.int .i64 0, .int .i64 0, .int .i64 0, .int .i64 0, .int .i64 0]
  have hb0 := (Below.refl _ w).alloc (Nat.le_refl _) (.cells #[.int .i64 0, .int .i64 0, .int .i64 0, .int .i64 0, .int .i64 0] TSh)
  obtain ⟨W0, hW0⟩ : ∃ W0, w.alloc (.cells #[.int .i64 0, .int .i64 0, .int .i64 0, .int .i64 0, .int .i64 0] TSh) = W0 := ⟨_, rfl⟩
  rw [hW0] at hbn hb0
  obtain ⟨r0, hr0⟩ : ∃ r, w.heap.size = r := ⟨_, rfl⟩
  rw [hr0] at hbn
  have HW0 := Lib.hid hW0
  have HR0 := Lib.hid hr0
  have HBN := Lib.hid hbn
  have HB0 := Lib.hid hb0
  clear hbn hb0 hW0 hr0
  go_enter Tryz.func63, Tryz.ntmps63
  go_upto_region 1 with fail
  rw [show w.alloc (.cells #[.int .i64 0, .int .i64 0, .int .i64 0, .int .i64 0, .int .i64 0] TSh) = W0 from HW0.out, HR0.out]
  go_wp2_with (go_at_call 90; refine (kr _).mono ?_; rintro x w1 ⟨rfl, hb1⟩; have br := HBN.out.below hb1 HBN.out.lt; have y0 : w1.cell? ⟨r0, 0, none⟩ = some (.int .i64 0) := br.cell 0; have f0 := br.frozen 0; have y1 : w1.cell? ⟨r0, 1, none⟩ = some (.int .i64 0) := br.cell 1; have f1 := br.frozen 1; have y2 : w1.cell? ⟨r0, 2, none⟩ = some (.int .i64 0) := br.cell 2; have f2 := br.frozen 2; have y3 : w1.cell? ⟨r0, 3, none⟩ = some (.int .i64 0) := br.cell 3; have f3 := br.frozen 3; have y4 : w1.cell? ⟨r0, 4, none⟩ = some (.int .i64 0) := br.cell 4; have f4 := br.frozen 4; have HBR := Lib.hid br; have HB1 := Lib.hid hb1; clear hb1 br)
  have b4 := (((((HBR.out.set_ 0 (.int .i64 0)).set_ 1 (.int .i64 0)).set_ 2 (.int .i64 0)).set_ 3 (.int .i64 0)).set_ 4 (.int .i64 0))
  have hr0 : w.heap.size ≤ r0 := by rw [HR0.out]; exact Nat.le_refl _
  have hA : Below w.heap.size w w1 := HB0.out.trans (HB1.out.mono HB0.out.size)
  have hE : Below w.heap.size w (((((w1.setCell ⟨r0, 0, none⟩ (.int .i64 0)).setCell ⟨r0, 1, none⟩ (.int .i64 0)).setCell ⟨r0, 2, none⟩ (.int .i64 0)).setCell ⟨r0, 3, none⟩ (.int .i64 0)).setCell ⟨r0, 4, none⟩ (.int .i64 0)) := (((((hA.setCell (p := ⟨r0, 0, none⟩) hr0 (.int .i64 0)).setCell (p := ⟨r0, 1, none⟩) hr0 (.int .i64 0)).setCell (p := ⟨r0, 2, none⟩) hr0 (.int .i64 0)).setCell (p := ⟨r0, 3, none⟩) hr0 (.int .i64 0)).setCell (p := ⟨r0, 4, none⟩) hr0 (.int .i64 0))
  have d0 : (((((w1.setCell ⟨r0, 0, none⟩ (.int .i64 0)).setCell ⟨r0, 1, none⟩ (.int .i64 0)).setCell ⟨r0, 2, none⟩ (.int .i64 0)).setCell ⟨r0, 3, none⟩ (.int .i64 0)).setCell ⟨r0, 4, none⟩ (.int .i64 0)).cell? ⟨r0, 0, none⟩ = some (.int .i64 0) := b4.cell 0
  have d1 : (((((w1.setCell ⟨r0, 0, none⟩ (.int .i64 0)).setCell ⟨r0, 1, none⟩ (.int .i64 0)).setCell ⟨r0, 2, none⟩ (.int .i64 0)).setCell ⟨r0, 3, none⟩ (.int .i64 0)).setCell ⟨r0, 4, none⟩ (.int .i64 0)).cell? ⟨r0, 1, none⟩ = some (.int .i64 0) := b4.cell 1
  have d2 : (((((w1.setCell ⟨r0, 0, none⟩ (.int .i64 0)).setCell ⟨r0, 1, none⟩ (.int .i64 0)).setCell ⟨r0, 2, none⟩ (.int .i64 0)).setCell ⟨r0, 3, none⟩ (.int .i64 0)).setCell ⟨r0, 4, none⟩ (.int .i64 0)).cell? ⟨r0, 2, none⟩ = some (.int .i64 0) := b4.cell 2
  have d3 : (((((w1.setCell ⟨r0, 0, none⟩ (.int .i64 0)).setCell ⟨r0, 1, none⟩ (.int .i64 0)).setCell ⟨r0, 2, none⟩ (.int .i64 0)).setCell ⟨r0, 3, none⟩ (.int .i64 0)).setCell ⟨r0, 4, none⟩ (.int .i64 0)).cell? ⟨r0, 3, none⟩ = some (.int .i64 0) := b4.cell 3
  have d4 : (((((w1.setCell ⟨r0, 0, none⟩ (.int .i64 0)).setCell ⟨r0, 1, none⟩ (.int .i64 0)).setCell ⟨r0, 2, none⟩ (.int .i64 0)).setCell ⟨r0, 3, none⟩ (.int .i64 0)).setCell ⟨r0, 4, none⟩ (.int .i64 0)).cell? ⟨r0, 4, none⟩ = some (.int .i64 0) := b4.cell 4
  exact bodyPost_ret (v := .tuple #[.agg #[.int .i64 0, .int .i64 0, .int .i64 0, .int .i64 0, .int .i64 0], .int .i64 6]) (by simp [results, Tryz.results63, go_sem, d0, d1, d2, d3, d4]) rfl ⟨rfl, hE⟩
set_option maxHeartbeats 4000000 in
/-- Of what is no sector. -/
theorem get_size (b : ByteArray) (hsz : b.size ≠ 64) (w : World) :
    Calls Tryz.prog 63 #[.string b] w fun x w' => x = .returned (.tuple #[sagg ⟨0, 0, 0, 0, 0⟩, .int .i64 5]) ∧ Below w.heap.size w w' := by
  have hs64 : ((b.size : Int) == 64) = false := by rw [beq_eq_false_iff_ne]; omega
  clear hsz
  unfold sagg
  have hbn := Blk.new w TSh #[.int .i64 0, .int .i64 0, .int .i64 0, .int .i64 0, .int .i64 0]
  have hb0 := (Below.refl _ w).alloc (Nat.le_refl _) (.cells #[.int .i64 0, .int .i64 0, .int .i64 0, .int .i64 0, .int .i64 0] TSh)
  obtain ⟨W0, hW0⟩ : ∃ W0, w.alloc (.cells #[.int .i64 0, .int .i64 0, .int .i64 0, .int .i64 0, .int .i64 0] TSh) = W0 := ⟨_, rfl⟩
  rw [hW0] at hbn hb0
  obtain ⟨r0, hr0⟩ : ∃ r, w.heap.size = r := ⟨_, rfl⟩
  rw [hr0] at hbn
  have HW0 := Lib.hid hW0
  have HR0 := Lib.hid hr0
  have HBN := Lib.hid hbn
  have HB0 := Lib.hid hb0
  clear hbn hb0 hW0 hr0
  go_enter Tryz.func63, Tryz.ntmps63
  go_upto_region 1 with fail
  rw [show w.alloc (.cells #[.int .i64 0, .int .i64 0, .int .i64 0, .int .i64 0, .int .i64 0] TSh) = W0 from HW0.out, HR0.out]
  have HBR := HBN
  have br := HBN.out
  have y0 : W0.cell? ⟨r0, 0, none⟩ = some (.int .i64 0) := br.cell 0
  have f0 := br.frozen 0
  have y1 : W0.cell? ⟨r0, 1, none⟩ = some (.int .i64 0) := br.cell 1
  have f1 := br.frozen 1
  have y2 : W0.cell? ⟨r0, 2, none⟩ = some (.int .i64 0) := br.cell 2
  have f2 := br.frozen 2
  have y3 : W0.cell? ⟨r0, 3, none⟩ = some (.int .i64 0) := br.cell 3
  have f3 := br.frozen 3
  have y4 : W0.cell? ⟨r0, 4, none⟩ = some (.int .i64 0) := br.cell 4
  have f4 := br.frozen 4
  clear br
  go_wp2_with fail
  have b4 := (((((HBR.out.set_ 0 (.int .i64 0)).set_ 1 (.int .i64 0)).set_ 2 (.int .i64 0)).set_ 3 (.int .i64 0)).set_ 4 (.int .i64 0))
  have hr0 : w.heap.size ≤ r0 := by rw [HR0.out]; exact Nat.le_refl _
  have hA : Below w.heap.size w W0 := HB0.out
  have hE : Below w.heap.size w (((((W0.setCell ⟨r0, 0, none⟩ (.int .i64 0)).setCell ⟨r0, 1, none⟩ (.int .i64 0)).setCell ⟨r0, 2, none⟩ (.int .i64 0)).setCell ⟨r0, 3, none⟩ (.int .i64 0)).setCell ⟨r0, 4, none⟩ (.int .i64 0)) := (((((hA.setCell (p := ⟨r0, 0, none⟩) hr0 (.int .i64 0)).setCell (p := ⟨r0, 1, none⟩) hr0 (.int .i64 0)).setCell (p := ⟨r0, 2, none⟩) hr0 (.int .i64 0)).setCell (p := ⟨r0, 3, none⟩) hr0 (.int .i64 0)).setCell (p := ⟨r0, 4, none⟩) hr0 (.int .i64 0))
  have d0 : (((((W0.setCell ⟨r0, 0, none⟩ (.int .i64 0)).setCell ⟨r0, 1, none⟩ (.int .i64 0)).setCell ⟨r0, 2, none⟩ (.int .i64 0)).setCell ⟨r0, 3, none⟩ (.int .i64 0)).setCell ⟨r0, 4, none⟩ (.int .i64 0)).cell? ⟨r0, 0, none⟩ = some (.int .i64 0) := b4.cell 0
  have d1 : (((((W0.setCell ⟨r0, 0, none⟩ (.int .i64 0)).setCell ⟨r0, 1, none⟩ (.int .i64 0)).setCell ⟨r0, 2, none⟩ (.int .i64 0)).setCell ⟨r0, 3, none⟩ (.int .i64 0)).setCell ⟨r0, 4, none⟩ (.int .i64 0)).cell? ⟨r0, 1, none⟩ = some (.int .i64 0) := b4.cell 1
  have d2 : (((((W0.setCell ⟨r0, 0, none⟩ (.int .i64 0)).setCell ⟨r0, 1, none⟩ (.int .i64 0)).setCell ⟨r0, 2, none⟩ (.int .i64 0)).setCell ⟨r0, 3, none⟩ (.int .i64 0)).setCell ⟨r0, 4, none⟩ (.int .i64 0)).cell? ⟨r0, 2, none⟩ = some (.int .i64 0) := b4.cell 2
  have d3 : (((((W0.setCell ⟨r0, 0, none⟩ (.int .i64 0)).setCell ⟨r0, 1, none⟩ (.int .i64 0)).setCell ⟨r0, 2, none⟩ (.int .i64 0)).setCell ⟨r0, 3, none⟩ (.int .i64 0)).setCell ⟨r0, 4, none⟩ (.int .i64 0)).cell? ⟨r0, 3, none⟩ = some (.int .i64 0) := b4.cell 3
  have d4 : (((((W0.setCell ⟨r0, 0, none⟩ (.int .i64 0)).setCell ⟨r0, 1, none⟩ (.int .i64 0)).setCell ⟨r0, 2, none⟩ (.int .i64 0)).setCell ⟨r0, 3, none⟩ (.int .i64 0)).setCell ⟨r0, 4, none⟩ (.int .i64 0)).cell? ⟨r0, 4, none⟩ = some (.int .i64 0) := b4.cell 4
  exact bodyPost_ret (v := .tuple #[.agg #[.int .i64 0, .int .i64 0, .int .i64 0, .int .i64 0, .int .i64 0], .int .i64 5]) (by simp [results, Tryz.results63, go_sem, d0, d1, d2, d3, d4]) rfl ⟨rfl, hE⟩
set_option maxHeartbeats 8000000 in
theorem get_ok (s : Sh) (h : Good s) (w : World) :
    Calls Tryz.prog 63 #[.string (superT s)] w fun x w' => x = .returned (.tuple #[sagg s, .int .i64 0]) ∧ Below w.heap.size w w' := by
  have hsz := superT_size s
  have kr := fun W => read_ok (superT s) 60 hsz (by omega) (superT_fits s) W
  have kp := fun W => put_ok s h W
  obtain ⟨R, hR⟩ := super_rest s
  obtain ⟨T, hT⟩ : ∃ T, superT s = T := ⟨_, rfl⟩
  rw [hT] at kr kp hsz hR ⊢
  obtain ⟨F, hF⟩ : ∃ F, T.extract 0 60 = F := ⟨_, rfl⟩
  have hfs : F.size = 60 := by rw [← hF, ByteArray.size_extract]; omega
  rw [hF] at kr hR
  obtain ⟨X, hX⟩ : ∃ X, F.extract 8 F.size = X := ⟨_, rfl⟩
  have hxs : X.size = 52 := by rw [← hX, ByteArray.size_extract]; omega
  rw [show (60 : Nat) = F.size from hfs.symm, hX] at hR
  have h8 : (8 : Int) ≤ (F.size : Int) := by omega
  have hst := steps h (by omega) hR
  have hfk := fun k hk => fld_ok h k hk
  have kn := fun W => new_reader X (by omega) W
  have hs64 : (T.size : Int) = 64 := by omega
  have HST := Lib.hid hst
  have HFK := Lib.hid hfk
  unfold sagg at *
  clear hR h hxs hF hT hfs hsz hst hfk
  have hbn := Blk.new w TSh #[.int .i64 0, .int .i64 0, .int .i64 0, .int .i64 0, .int .i64 0]
  have hb0 := (Below.refl _ w).alloc (Nat.le_refl _) (.cells #[.int .i64 0, .int .i64 0, .int .i64 0, .int .i64 0, .int .i64 0] TSh)
  obtain ⟨W0, hW0⟩ : ∃ W0, w.alloc (.cells #[.int .i64 0, .int .i64 0, .int .i64 0, .int .i64 0, .int .i64 0] TSh) = W0 := ⟨_, rfl⟩
  rw [hW0] at hbn hb0
  obtain ⟨r0, hr0⟩ : ∃ r, w.heap.size = r := ⟨_, rfl⟩
  rw [hr0] at hbn
  have HW0 := Lib.hid hW0
  have HR0 := Lib.hid hr0
  have HBN := Lib.hid hbn
  have HB0 := Lib.hid hb0
  clear hbn hb0 hW0 hr0
  go_enter Tryz.func63, Tryz.ntmps63
  go_upto_region 1 with fail
  rw [show w.alloc (.cells #[.int .i64 0, .int .i64 0, .int .i64 0, .int .i64 0, .int .i64 0] TSh) = W0 from HW0.out, HR0.out]
  go_upto_region 9 with (first
    | (go_at_call 90; refine (kr _).mono ?_; rintro x w1 ⟨rfl, hb1⟩; have HB1 := Lib.hid hb1; clear hb1)
    | (go_at_call 91; refine (kn _).mono ?_; rintro x w2 ⟨g, rfl, hr2⟩; have R0 := Lib.hid hr2; clear hr2))
  have hbA := Blk.new w2 TArr (arrC s 0)
  have hR1 := R0.out.alloc (.cells (arrC s 0) TArr)
  have hgl : g < w2.heap.size := R0.out.1.lt
  have hwl : w1.heap.size ≤ w2.heap.size := R0.out.2.1.size
  obtain ⟨la, hla⟩ : ∃ la, w2.heap.size = la := ⟨_, rfl⟩
  have H3 : Hid (Rd w1 w1.heap.size g (XF X 0) (w2.alloc (.cells (arrC s 0) TArr)) ∧ Blk (w2.alloc (.cells (arrC s 0) TArr)) la TArr (arrC s 0)) := Lib.hid ⟨hR1, hla ▸ hbA⟩
  rw [hla] at hgl hwl ⊢
  have hne : ¬ only g la := fun e => by have h1 : la = g := e; omega
  have HNE := Lib.hid hne
  have HGL := Lib.hid hgl
  have HWL := Lib.hid hwl
  clear hbA hR1 hgl hwl hla hne R0
  go_loopw [8, 28] (fun _ i wr => ∃ k : Nat, i = .int .i64 (k : Int) ∧ k ≤ 5 ∧ Hid (Rd w1 w1.heap.size g (XF X k) wr ∧ Blk wr la TArr (arrC s k))) (fun _ i _ => 5 - (intOf i).toNat)
  case atStart => exact ⟨0, rfl, by omega, H3⟩
  case round =>
    obtain ⟨k, rfl, hk, HW⟩ := hrel
    by_cases hlt : k < 5
    · obtain ⟨s1, s2, s3⟩ := HST.out k hlt
      have hfk := HFK.out k hlt
      have e1 : IntKind.i64.wrap ((k : Int) + 1) = (k : Int) + 1 := IntWalk.i64_in _ (by omega)
      have e2 : IntKind.i64.wrap (fld s k) = fld s k := IntWalk.i64_in _ (by omega)
      have hk5 : (k : Int) < 5 := by omega
      have kq := rnum_4 HW.out.1 s2 (by omega)
      rw [s1] at kq
      have hck : (arrC s k)[k]? = some (.int .i64 0) := by
        rcases (by omega : k = 0 ∨ k = 1 ∨ k = 2 ∨ k = 3 ∨ k = 4) with rfl | rfl | rfl | rfl | rfl <;> rfl
      have HCK := Lib.hid hck
      have HAS := Lib.hid (arr_set s k hlt)
      clear s1 s2 s3 hck hfk
      go_wp2_with (go_at_call 92; refine kq.mono ?_; rintro x w5 ⟨rfl, h5, hk5'⟩; have ha5 := HW.out.2.keeps hk5' HNE.out; have ca : w5.cell? ⟨la, k, none⟩ = some (.int .i64 0) := (ha5.cell k).trans HCK.out; have fa := ha5.frozen k; have H5 := Lib.hid h5; have HA5 := Lib.hid ha5; clear h5 hk5' ha5)
      have h6 : Rd w1 w1.heap.size g (XF X (k + 1)) (w5.setCell ⟨la, k, none⟩ (.int .i64 (fld s k))) := ⟨H5.out.1.keeps (keep1 w5 la k _) (fun e => by have h1 : g = la := e; have := HGL.out; omega), H5.out.2.1.setCell (p := ⟨la, k, none⟩) HWL.out _, H5.out.2.2⟩
      have h7 := HA5.out.set_ k (.int .i64 (fld s k))
      rw [HAS.out] at h7
      have H67 := Lib.hid (And.intro h6 h7)
      clear h6 h7
      go_roundw
      case rel => exact ⟨k + 1, by go_num, by omega, H67⟩
      case measure => simp [intOf]; omega
    · obtain rfl : k = 5 := by omega
      have l0 : wr.cell? ⟨la, 0, none⟩ = some (.int .i64 s.n) := HW.out.2.cell 0
      have l1 : wr.cell? ⟨la, 1, none⟩ = some (.int .i64 s.b) := HW.out.2.cell 1
      have l2 : wr.cell? ⟨la, 2, none⟩ = some (.int .i64 s.l) := HW.out.2.cell 2
      have l3 : wr.cell? ⟨la, 3, none⟩ = some (.int .i64 s.c) := HW.out.2.cell 3
      have l4 : wr.cell? ⟨la, 4, none⟩ = some (.int .i64 s.e) := HW.out.2.cell 4
      have hb5 := HB1.out.trans (HW.out.1.2.1.mono HB1.out.size)
      have HB5 := Lib.hid hb5
      clear hb5
      go_wp2_with (go_at_call 83; refine (kp _).mono ?_; rintro x w6 ⟨rfl, hb6⟩; have bx := (Blk.new wr TSh (scells s)).below hb6 (Blk.new wr TSh (scells s)).lt; have x0 : w6.cell? ⟨wr.heap.size, 0, none⟩ = some (.int .i64 s.n) := bx.cell 0; have x1 : w6.cell? ⟨wr.heap.size, 1, none⟩ = some (.int .i64 s.b) := bx.cell 1; have x2 : w6.cell? ⟨wr.heap.size, 2, none⟩ = some (.int .i64 s.l) := bx.cell 2; have x3 : w6.cell? ⟨wr.heap.size, 3, none⟩ = some (.int .i64 s.c) := bx.cell 3; have x4 : w6.cell? ⟨wr.heap.size, 4, none⟩ = some (.int .i64 s.e) := bx.cell 4; have hb66 := (HB5.out.alloc HB5.out.size (.cells (scells s) TSh)).trans (hb6.mono (HB5.out.alloc HB5.out.size _).size); have br := HBN.out.below hb66 HBN.out.lt; have y0 : w6.cell? ⟨r0, 0, none⟩ = some (.int .i64 0) := br.cell 0; have f0 := br.frozen 0; have y1 : w6.cell? ⟨r0, 1, none⟩ = some (.int .i64 0) := br.cell 1; have f1 := br.frozen 1; have y2 : w6.cell? ⟨r0, 2, none⟩ = some (.int .i64 0) := br.cell 2; have f2 := br.frozen 2; have y3 : w6.cell? ⟨r0, 3, none⟩ = some (.int .i64 0) := br.cell 3; have f3 := br.frozen 3; have y4 : w6.cell? ⟨r0, 4, none⟩ = some (.int .i64 0) := br.cell 4; have f4 := br.frozen 4; have HBR := Lib.hid br; have HB6 := Lib.hid hb66; clear hb6 hb66 br bx)
      have b4 := (((((HBR.out.set_ 0 (.int .i64 s.n)).set_ 1 (.int .i64 s.b)).set_ 2 (.int .i64 s.l)).set_ 3 (.int .i64 s.c)).set_ 4 (.int .i64 s.e))
      have hr0 : w.heap.size ≤ r0 := by rw [HR0.out]; exact Nat.le_refl _
      have hA : Below w.heap.size w w6 := HB0.out.trans (HB6.out.mono HB0.out.size)
      have hE : Below w.heap.size w (((((w6.setCell ⟨r0, 0, none⟩ (.int .i64 s.n)).setCell ⟨r0, 1, none⟩ (.int .i64 s.b)).setCell ⟨r0, 2, none⟩ (.int .i64 s.l)).setCell ⟨r0, 3, none⟩ (.int .i64 s.c)).setCell ⟨r0, 4, none⟩ (.int .i64 s.e)) := (((((hA.setCell (p := ⟨r0, 0, none⟩) hr0 (.int .i64 s.n)).setCell (p := ⟨r0, 1, none⟩) hr0 (.int .i64 s.b)).setCell (p := ⟨r0, 2, none⟩) hr0 (.int .i64 s.l)).setCell (p := ⟨r0, 3, none⟩) hr0 (.int .i64 s.c)).setCell (p := ⟨r0, 4, none⟩) hr0 (.int .i64 s.e))
      have d0 : (((((w6.setCell ⟨r0, 0, none⟩ (.int .i64 s.n)).setCell ⟨r0, 1, none⟩ (.int .i64 s.b)).setCell ⟨r0, 2, none⟩ (.int .i64 s.l)).setCell ⟨r0, 3, none⟩ (.int .i64 s.c)).setCell ⟨r0, 4, none⟩ (.int .i64 s.e)).cell? ⟨r0, 0, none⟩ = some (.int .i64 s.n) := b4.cell 0
      have d1 : (((((w6.setCell ⟨r0, 0, none⟩ (.int .i64 s.n)).setCell ⟨r0, 1, none⟩ (.int .i64 s.b)).setCell ⟨r0, 2, none⟩ (.int .i64 s.l)).setCell ⟨r0, 3, none⟩ (.int .i64 s.c)).setCell ⟨r0, 4, none⟩ (.int .i64 s.e)).cell? ⟨r0, 1, none⟩ = some (.int .i64 s.b) := b4.cell 1
      have d2 : (((((w6.setCell ⟨r0, 0, none⟩ (.int .i64 s.n)).setCell ⟨r0, 1, none⟩ (.int .i64 s.b)).setCell ⟨r0, 2, none⟩ (.int .i64 s.l)).setCell ⟨r0, 3, none⟩ (.int .i64 s.c)).setCell ⟨r0, 4, none⟩ (.int .i64 s.e)).cell? ⟨r0, 2, none⟩ = some (.int .i64 s.l) := b4.cell 2
      have d3 : (((((w6.setCell ⟨r0, 0, none⟩ (.int .i64 s.n)).setCell ⟨r0, 1, none⟩ (.int .i64 s.b)).setCell ⟨r0, 2, none⟩ (.int .i64 s.l)).setCell ⟨r0, 3, none⟩ (.int .i64 s.c)).setCell ⟨r0, 4, none⟩ (.int .i64 s.e)).cell? ⟨r0, 3, none⟩ = some (.int .i64 s.c) := b4.cell 3
      have d4 : (((((w6.setCell ⟨r0, 0, none⟩ (.int .i64 s.n)).setCell ⟨r0, 1, none⟩ (.int .i64 s.b)).setCell ⟨r0, 2, none⟩ (.int .i64 s.l)).setCell ⟨r0, 3, none⟩ (.int .i64 s.c)).setCell ⟨r0, 4, none⟩ (.int .i64 s.e)).cell? ⟨r0, 4, none⟩ = some (.int .i64 s.e) := b4.cell 4
      exact bodyPost_ret (v := .tuple #[.agg #[.int .i64 s.n, .int .i64 s.b, .int .i64 s.l, .int .i64 s.c, .int .i64 s.e], .int .i64 0]) (by simp [results, Tryz.results63, go_sem, d0, d1, d2, d3, d4]) rfl ⟨rfl, hE⟩
end Go.Proofs.YtakilnpfhljgfaaGreat.SU

/- A map whose keys are whole numbers, as a function: what stands at a key; behind a store; in a range's rounds. For any program, any element that can be told from its value. No condition. -/
namespace Go.Proofs.YtakilnpfhljgfaaGreat.MI
set_option maxRecDepth 100000
open Go.RowKit Go.Maps
set_option linter.unusedVariables false

/-- How an element's value is told: 'enc' lays it, 'dec' tells it. -/
structure Codec (β : Type) where
  enc : β → Value
  dec : Value → Option β
  back : ∀ c, dec (enc c) = some c
  only : ∀ v c, dec v = some c → v = enc c

def rdC {β : Type} (E : Codec β) (v : Value) : Option (DataW β × List MemPlace) := (E.dec v).map fun c => (.held c, [])
theorem rdC_enc {β : Type} (E : Codec β) (c : β) : rdC E (E.enc c) = some (.held c, []) := by simp [rdC, E.back]
theorem rdC_inv {β : Type} {E : Codec β} {v : Value} {y : DataW β × List MemPlace} (h : rdC E v = some y) : ∃ c, v = E.enc c ∧ y = (.held c, []) := by
  unfold rdC at h
  cases hd : E.dec v with
  | none => rw [hd] at h; cases h
  | some c => rw [hd] at h; injection h with h; exact ⟨c, E.only v c hd, h.symm⟩

def WfI (x : Int) : Prop := (Lit.int .i64 x).wf = true
def View {β : Type} (D : DataW β) (f : Int → Option β) : Prop := ∀ x, WfI x → ∀ zd, D.atKey (.int .i64 x) zd = ((f x).map DataW.held).getD zd
def putF {β : Type} (f : Int → Option β) (x : Int) (c : β) : Int → Option β := fun y => if y = x then some c else f y
theorem putF_same {β : Type} (f : Int → Option β) (x : Int) (c : β) : putF f x c x = some c := by simp [putF]
theorem putF_other {β : Type} (f : Int → Option β) {x y : Int} (c : β) (h : y ≠ x) : putF f x c y = f y := by simp [putF, h]

section
variable {β : Type} {E : Codec β} {P : Program} {k e : TypeId} {w w' : World} {b n : Nat} {f : Int → Option β}

/-- Block b is a map of at most n entries: f says what stands at a key. -/
def MapAt (E : Codec β) (P : Program) (k : TypeId) (w : World) (b n : Nat) (f : Int → Option β) : Prop := ∃ D : DataW β, w.ownsMap P k (rdC E) b n D ∧ View D f

theorem View.has {D : DataW β} (h : View D f) {x : Int} (hx : WfI x) : Maps.has D (.int .i64 x) = (f x).isSome := by
  cases hf : f x with
  | none => exact Maps.has_false_of_atKey fun z => by rw [h x hx, hf]; rfl
  | some c => exact Maps.has_true_of_atKey (y := .held c) fun z => by rw [h x hx, hf]; rfl
theorem View.put {D : DataW β} (hk : P.underlying k = some (.int .i64)) (hD : IsMap D) (h : View D f) {x : Int} (hx : WfI x) (c : β) : View (D.put (.int .i64 x) (.held c)) (putF f x c) := by
  intro y hy zd
  by_cases he : y = x
  · subst he
    rw [Maps.atKey_put_same hD ((int_keyed hk).key (keyOf_int_mk hk hx)), putF_same]; rfl
  · rw [Maps.atKey_put_other (fun e => he (by injection e)), h y hy, putF_other f c he]
theorem MapAt.made (w : World) : MapAt E P k (w.alloc (.map #[] 0)) w.heap.size 0 (fun _ => none) := ⟨.map [], World.ownsMap_made _ _ _ _, fun _ _ _ => rfl⟩
theorem MapAt.lt (h : MapAt E P k w b n f) : b < w.heap.size := by obtain ⟨D, h, _⟩ := h; exact h.lt
theorem MapAt.mono (h : MapAt E P k w b n f) {n' : Nat} (hn : n ≤ n') : MapAt E P k w b n' f := by obtain ⟨D, h, v⟩ := h; exact ⟨D, h.mono hn, v⟩
theorem MapAt.obj (h : MapAt E P k w b n f) : ∃ es clock, w.heap[b]? = some (.map es clock) := by obtain ⟨D, ⟨es, clock, hb, _⟩, _⟩ := h; exact ⟨es, clock, hb⟩
theorem MapAt.keeps {S : Nat → Prop} (h : MapAt E P k w b n f) (hk : Keeps S w w') (hn : ¬ S b) : MapAt E P k w' b n f := by
  obtain ⟨D, ⟨es, clock, hb, F, hs, hD⟩, hv⟩ := h
  have hlt : b < w.heap.size := (Array.getElem?_eq_some_iff.1 hb).1
  exact ⟨D, ⟨es, clock, (hk.block b hlt hn).trans hb, F, hs, hD⟩, hv⟩
theorem MapAt.alloc (h : MapAt E P k w b n f) (o : Obj) : MapAt E P k (w.alloc o) b n f := h.keeps (S := fun _ => False) ((Keeps.refl _ _).alloc o) id
theorem MapAt.drew (h : MapAt E P k w b n f) : MapAt E P k w.drew b n f := h.keeps (S := fun _ => False) ((Keeps.refl _ _).drew) id
theorem MapAt.drewN (h : MapAt E P k w b n f) (m : Nat) : MapAt E P k (w.drewN m) b n f := h.keeps (S := fun _ => False) ((Keeps.refl _ _).drewN m) id
theorem MapAt.setCell (h : MapAt E P k w b n f) {a : Addr} (ha : b ≠ a.block) (u : Value) : MapAt E P k (w.setCell a u) b n f := by obtain ⟨D, h, v⟩ := h; exact ⟨D, h.setCell ha u, v⟩
theorem MapAt.blk {g : Nat} {t : TypeId} {cs : Array Value} (h : MapAt E P k w b n f) (hg : Blk w g t cs) : b ≠ g := by
  rintro rfl
  obtain ⟨es, clock, hb⟩ := h.obj
  unfold Blk at hg
  rw [hb] at hg
  cases hg
theorem own_map_ne {base : Nat} {e : TypeId} {size n : Nat} {v : Value} {ys : List Value} {es : Array MapEntry} {clock : Nat} (h : w.ownsRow base e size v n ys) (hb : w.heap[b]? = some (.map es clock)) : v.ownBlock ≠ some b := by
  rcases h.2 with ⟨rfl, _⟩ | ⟨g', cap, cur, rfl, _, hh, _⟩
  · simp [Value.ownBlock]
  · intro he
    have : g' = b := by simpa [Value.ownBlock] using he
    subst this
    rw [hh] at hb
    cases hb
theorem MapAt.ext {f' : Int → Option β} (h : MapAt E P k w b n f) (he : ∀ x, WfI x → f x = f' x) : MapAt E P k w b n f' := by
  obtain ⟨D, h, v⟩ := h
  exact ⟨D, h, fun x hx zd => by rw [v x hx, he x hx]⟩

/-- A range over a map, under way: 'left' says whose entry is still to come. -/
def RangeAt (E : Codec β) (P : Program) (k : TypeId) (w : World) (b r n : Nat) (f : Int → Option β) (left : Int → Bool) (cnt : Nat) : Prop :=
  ∃ (D : DataW β) (l : Lit → Bool), w.ranges P k (rdC E) b r n D l cnt ∧ View D f ∧ ∀ x, WfI x → l (.int .i64 x) = left x
theorem RangeAt.owns {left : Int → Bool} {cnt r : Nat} (h : RangeAt E P k w b r n f left cnt) : MapAt E P k w b n f := by obtain ⟨D, l, h, v, _⟩ := h; exact ⟨D, h.owns, v⟩
theorem RangeAt.left_eq {left : Int → Bool} {cnt r : Nat} (h : RangeAt E P k w b r n f left cnt) : w.rangeLeft b r = cnt := by obtain ⟨D, l, h, _⟩ := h; exact h.left_eq
theorem RangeAt.ne {left : Int → Bool} {cnt r : Nat} (h : RangeAt E P k w b r n f left cnt) : r ≠ b := by obtain ⟨D, l, h, _⟩ := h; exact h.ne
theorem RangeAt.lt {left : Int → Bool} {cnt r : Nat} (h : RangeAt E P k w b r n f left cnt) : r < w.heap.size := by obtain ⟨D, l, h, _⟩ := h; exact h.lt
theorem RangeAt.kept {left : Int → Bool} {cnt r : Nat} {row : Option Nat} (h : RangeAt E P k w b r n f left cnt) (hg : w.grownBy w' row) (hb' : some b ≠ row) (hr' : some r ≠ row) : RangeAt E P k w' b r n f left cnt := by
  obtain ⟨D, l, h, v⟩ := h; exact ⟨D, l, h.kept hg hb' hr', v⟩
end

/-! ### at the operations -/
section
variable {β : Type} {E : Codec β} {P : Program} (w : World) {ops : Array Oper} {rest : List Oper} {o : Oper} {a : Act} {Q : Exit → Act → World → Prop}

theorem wp_look (hg : o.guard = none) (m x : Operand) (t : TypeId) (hop : o.op = Op.lookup t m x false)
    (k e : TypeId) (hk : P.underlying k = some (.int .i64)) (ht : P.underlying t = some (.map k e)) (z0 : β) (hz : (zeroValue e).run P w = .ok (E.enc z0) w) (b n : Nat) (f : Int → Option β)
    (hm : a.eval m = .map (some b)) (h : MapAt E P k w b n f) (i : Int) (hx : a.eval x = .int .i64 i) (hi : WfI i)
    (hK : wpList P ops Q rest (a.put o.dst (E.enc ((f i).getD z0))) w) :
    wpList P ops Q (o :: rest) a w := by
  refine wpList_plain hg fun K' hK' => ?_
  obtain ⟨D, hown, hv⟩ := h
  obtain ⟨v, ps, hrun, hR⟩ := hown.lookup (int_keyed hk) ht hz (rdC_enc E z0) (keyOf_int_mk hk hi)
  rw [hv i hi] at hR
  obtain ⟨c, rfl, hc⟩ := rdC_inv hR
  have hc' : c = (f i).getD z0 := by
    have h1 := congrArg Prod.fst hc
    cases hf : f i with
    | none => rw [hf] at h1; simp at h1; simp [h1]
    | some c1 => rw [hf] at h1; simp at h1; simp [h1]
  unfold Oper.wp
  simp [execOp, hop, hm, hx, hrun, Result.andThen]
  rw [hc']
  exact hK' _ _ hK

theorem wp_look_ok (hg : o.guard = none) (m x : Operand) (t : TypeId) (hop : o.op = Op.lookup t m x true)
    (k e : TypeId) (hk : P.underlying k = some (.int .i64)) (ht : P.underlying t = some (.map k e)) (z0 : β) (hz : (zeroValue e).run P w = .ok (E.enc z0) w) (b n : Nat) (f : Int → Option β)
    (hm : a.eval m = .map (some b)) (h : MapAt E P k w b n f) (i : Int) (hx : a.eval x = .int .i64 i) (hi : WfI i)
    (hK : wpList P ops Q rest (a.put o.dst (.tuple #[E.enc ((f i).getD z0), .bool (f i).isSome])) w) :
    wpList P ops Q (o :: rest) a w := by
  refine wpList_plain hg fun K' hK' => ?_
  obtain ⟨D, hown, hv⟩ := h
  obtain ⟨v, ps, hrun, hR⟩ := hown.look_ok (int_keyed hk) ht hz (rdC_enc E z0) (keyOf_int_mk hk hi)
  rw [hv i hi] at hR
  obtain ⟨c, rfl, hc⟩ := rdC_inv hR
  have hc' : c = (f i).getD z0 := by
    have h1 := congrArg Prod.fst hc
    cases hf : f i with
    | none => rw [hf] at h1; simp at h1; simp [h1]
    | some c1 => rw [hf] at h1; simp at h1; simp [h1]
  rw [hv.has hi] at hrun
  unfold Oper.wp
  simp [execOp, hop, hm, hx, hrun, Result.andThen]
  rw [hc']
  exact hK' _ _ hK

theorem wp_store (hg : o.guard = none) (m x v : Operand) (t : TypeId) (hop : o.op = Op.mapUpdate t m x v)
    (k e : TypeId) (hk : P.underlying k = some (.int .i64)) (ht : P.underlying t = some (.map k e)) (b n : Nat) (f : Int → Option β)
    (hm : a.eval m = .map (some b)) (h : MapAt E P k w b n f) (hn : n < maxLen) (i : Int) (c : β) (hx : a.eval x = .int .i64 i) (hi : WfI i) (hv : a.eval v = E.enc c)
    (hK : ∀ w', MapAt E P k w' b (n + 1) (putF f i c) → w.grownBy w' (some b) → wpList P ops Q rest (a.put o.dst undef) w') :
    wpList P ops Q (o :: rest) a w := by
  refine wpList_plain hg fun K' hK' => ?_
  obtain ⟨D, hown, hvw⟩ := h
  obtain ⟨w', hrun, r1, r2⟩ := hown.update (int_keyed hk) ht hn (keyOf_int_mk hk hi) (rdC_enc E c)
  unfold Oper.wp
  simp [execOp, hop, hm, hx, hv, hrun, Result.andThen]
  exact hK' _ _ (hK w' ⟨_, r1, hvw.put hk hown.isMap hi c⟩ r2)

theorem wp_range (hg : o.guard = none) (m : Operand) (t : TypeId) (hop : o.op = Op.range t m) (k e : TypeId) (hk : P.underlying k = some (.int .i64)) (ht : P.underlying t = some (.map k e)) (b n : Nat) (f : Int → Option β)
    (hm : a.eval m = .map (some b)) (h : MapAt E P k w b n f)
    (hK : ∀ w' cnt, cnt ≤ n → RangeAt E P k w' b w.heap.size n f (fun x => (f x).isSome) cnt → w.grownBy w' none → w'.heap.size = w.heap.size + 1 → wpList P ops Q rest (a.put o.dst (.pointer (some ⟨w.heap.size, 0, none⟩))) w') :
    wpList P ops Q (o :: rest) a w := by
  obtain ⟨D, hown, hv⟩ := h
  exact wpList_range_own w hg m t hop k e (int_keyed hk) ht (rdC E) b n D hm hown fun w' h1 h2 h3 => hK w' _ hown.size_le ⟨D, _, h1, hv, fun x hx => hv.has hx⟩ h2 h3

theorem wp_next (hg : o.guard = none) (it : Operand) (hop : o.op = Op.next it false) (k : TypeId) (hk : P.underlying k = some (.int .i64))
    (b r n : Nat) (f : Int → Option β) (left : Int → Bool) (cnt : Nat) (hit : a.eval it = .pointer (some ⟨r, 0, none⟩)) (h : RangeAt E P k w b r n f left cnt)
    (hDone : cnt = 0 → (∀ x, WfI x → left x = false) → wpList P ops Q rest (a.put o.dst (.tuple #[.bool false])) w)
    (hMore : ∀ (x : Int) (c : β) (w' : World) (cnt' : Nat), WfI x → left x = true → f x = some c → RangeAt E P k w' b r n f (fun z => left z && !(z == x)) cnt' → cnt' < cnt →
      w.grownBy w' (some r) → w'.heap.size = w.heap.size → (Instr.entry (.pointer (some ⟨r, 0, none⟩))).run P w' = .ok (.tuple #[.int .i64 x, E.enc c]) w' → wpList P ops Q rest (a.put o.dst (.tuple #[.bool true, .int .i64 x, E.enc c])) w') :
    wpList P ops Q (o :: rest) a w := by
  obtain ⟨D, l, hr, hv, hl⟩ := h
  refine wpList_next_ranges w hg it hop k (int_keyed hk) (rdC E) (Value.int .i64) E.enc (fun key kl hkey => by obtain ⟨x, rfl, _⟩ := Maps.keyOf_int_inv hk hkey; exact ⟨x, rfl⟩) (fun v y hy => by obtain ⟨c, rfl, _⟩ := rdC_inv hy; exact ⟨c, rfl⟩)
    b r n D l cnt hit hr (fun h0 hl0 => hDone h0 fun x hx => by rw [← hl x hx]; exact hl0 _) (fun x c kl y w' cnt' hkey hlk hy hat hrg hlt hgr hsz hen => ?_)
  obtain ⟨x', ex, rfl, hwx⟩ := Maps.keyOf_int_inv hk hkey
  cases ex
  obtain ⟨c', ec, rfl⟩ := rdC_inv hy
  have hcc : c' = c := by
    have h1 := E.back c'
    rw [← ec, E.back] at h1
    injection h1 with h1
    exact h1.symm
  subst hcc
  refine hMore x c' w' cnt' hwx (by rw [← hl x hwx]; exact hlk) ?_ ⟨D, _, hrg, hv, fun z hz => ?_⟩ hlt hgr hsz hen
  · have h1 := hat .nil
    rw [hv x hwx] at h1
    cases hf : f x with
    | none => rw [hf] at h1; cases h1
    | some c1 => rw [hf] at h1; simp at h1; rw [h1]
  · show (l (.int .i64 z) && !(Lit.int .i64 z).sameKey (.int .i64 x)) = _
    rw [hl z hz]
    congr 1
    by_cases hzx : z = x
    · subst hzx
      rw [WideAt.sameKey_self ((int_keyed hk).key (keyOf_int_mk hk hwx))]; simp
    · rw [Maps.sameKey_ne (fun e => hzx (by injection e))]; simp [hzx]
end
end Go.Proofs.YtakilnpfhljgfaaGreat.MI

/- What a disk holds, and what each of its calls makes of that: plain functions, no program in sight. No condition. -/
namespace Go.Proofs.YtakilnpfhljgfaaGreat.DK
set_option maxRecDepth 100000
open Go.RowKit Go.Proofs.YtakilnpfhljgfaaGreat.MI
set_option linter.unusedVariables false

/-- A sector that waits or lasts: its node, its place, its number, its bytes. -/
structure Wr where
  n : Int
  a : Int
  s : Int
  d : ByteArray
def wval (x : Wr) : List Value := [.int .i64 x.n, .int .i64 x.a, .int .i64 x.s, .string x.d]
def wagg (x : Wr) : Value := .agg #[.int .i64 x.n, .int .i64 x.a, .int .i64 x.s, .string x.d]
def wdec : Value → Option Wr
  | .agg cs => match cs.toList with
    | [.int .i64 n, .int .i64 a, .int .i64 s, .string d] => some ⟨n, a, s, d⟩
    | _ => none
  | _ => none
def wcode : Codec Wr := ⟨wagg, wdec, fun c => by cases c; rfl, fun v c h => by
  unfold wdec at h
  split at h
  · rename_i cs
    split at h
    · rename_i n a s d he
      injection h with h
      subst h
      unfold wagg
      congr 1
      apply Array.ext'
      simpa using he
    · cases h
  · cases h⟩
def sdec : Value → Option ByteArray
  | .string d => some d
  | _ => none
def scode : Codec ByteArray := ⟨Value.string, sdec, fun _ => rfl, fun v c h => by
  cases v <;> simp [sdec] at h
  rw [h]⟩
theorem wval_len (x : Wr) : (wval x).length = 4 := rfl
abbrev wr0 : Wr := ⟨0, 0, 0, ByteArray.mk #[]⟩

def updF {α : Type} (f : Int → α) (i : Int) (v : α) : Int → α := fun j => if j = i then v else f j
theorem updF_same {α : Type} (f : Int → α) (i : Int) (v : α) : updF f i v i = v := by simp [updF]
theorem updF_other {α : Type} (f : Int → α) {i j : Int} (v : α) (h : j ≠ i) : updF f i v j = f j := by simp [updF, h]

structure Dk where
  room : Nat
  on : Bool
  seq : Nat
  now : Int → Option ByteArray
  lasts : Int → Option Wr
  waits : List Wr
  table : Int → Int
  words : Int → Int
  last : Int
  armed : Bool
  left : Int
  stays : List Int

def newK (n : Nat) : Dk := ⟨n, true, 0, fun _ => none, fun _ => none, [], fun _ => 0, fun _ => 0, 0, false, 0, []⟩
/-- Is a number odd, as a machine tells it? -/
def oddB (x : Int) : Bool := bits BinOp.and IntKind.i64 x 1 == 1
def inNode (n : Int) : Bool := decide (0 ≤ n) && decide (n ≤ 16)
def mayK (D : Dk) (n : Int) : Int := if D.on then (if inNode n then 0 else 1) else 14
def admK (D : Dk) (n e : Int) : Int := if e == 0 || !(D.table n == e) then 34 else 0
def thereK (D : Dk) (a n : Int) : Bool := decide (0 ≤ a) && decide (a ≤ (D.room : Int)) && decide (n ≤ (D.room : Int) - a)
def armK (D : Dk) (n : Int) (keep : List Int) : Dk := { D with armed := decide (0 ≤ n), left := n, stays := keep }
/-- A write lasts, if it is the latest one. -/
def keepL (L : Int → Option Wr) (w : Wr) : Int → Option Wr := if ((L w.a).getD wr0).s < w.s then putF L w.a w else L
def staysB (keep : List Int) (i : Nat) : Bool := decide (i < keep.length) && oddB (keep.getD i 0)
/-- What lasts behind a cut of power, of the first k that waited. -/
def cutL (L : Int → Option Wr) (ws : List Wr) (keep : List Int) : Nat → Int → Option Wr
  | 0 => L
  | k + 1 => if staysB keep k then keepL (cutL L ws keep k) (ws.getD k wr0) else cutL L ws keep k
def offK (D : Dk) : Dk := { D with armed := false, left := -1, stays := [] }
def dataOf (L : Int → Option Wr) : Int → Option ByteArray := fun x => (L x).map Wr.d
def cutK (D : Dk) (keep : List Int) : Dk :=
  if D.on then { D with on := false, lasts := cutL D.lasts D.waits keep D.waits.length, now := dataOf (cutL D.lasts D.waits keep D.waits.length), waits := [], armed := false, left := -1, stays := [] } else offK D
def cutN (D : Dk) : Nat := if D.on then D.waits.length else 0
/-- A call that would be done: does the power go? -/
def goesB (D : Dk) : Bool := D.armed && !decide (0 < D.left)
def goesK (D : Dk) : Dk := if D.armed then (if 0 < D.left then { D with left := D.left - 1 } else cutK D D.stays) else D
/-- What lasts behind a barrier of a node, of the first k that waited. -/
def setL (L : Int → Option Wr) (ws : List Wr) (n : Int) : Nat → Int → Option Wr
  | 0 => L
  | k + 1 => if (ws.getD k wr0).n = n then keepL (setL L ws n k) (ws.getD k wr0) else setL L ws n k
def settleK (D : Dk) (n : Int) : Dk := { D with lasts := setL D.lasts D.waits n D.waits.length, waits := D.waits.filter fun x => !decide (x.n = n) }
/-- One sector of many. -/
def sect (b : ByteArray) (i : Nat) : ByteArray := b.extract (i * 64) ((i + 1) * 64)
def oneW (D : Dk) (n a : Int) (b : ByteArray) : Wr := ⟨n, a, (D.seq : Int) + 1, b⟩
def oneK (D : Dk) (n a : Int) (b : ByteArray) : Dk := { D with seq := D.seq + 1, now := putF D.now a b, waits := D.waits ++ [oneW D n a b] }
def manyK (D : Dk) (n a : Int) (b : ByteArray) : Nat → Dk
  | 0 => D
  | k + 1 => oneK (manyK D n a b k) n (a + (k : Int)) (sect b k)
def argB (b : ByteArray) : Bool := decide (64 ≤ b.size) && decide (b.size / 64 ≤ 16) && decide (b.size % 64 = 0)
def writeE (D : Dk) (n e a : Int) (b : ByteArray) : Int :=
  if mayK D n = 0 then (if argB b then (if admK D n e = 0 then (if thereK D a ((b.size / 64 : Nat) : Int) then (if goesB D then 14 else 0) else 30) else 34) else 1) else mayK D n
def writeK (D : Dk) (n e a : Int) (b : ByteArray) : Dk :=
  if mayK D n = 0 ∧ argB b = true ∧ admK D n e = 0 ∧ thereK D a ((b.size / 64 : Nat) : Int) = true then (if goesB D then goesK D else manyK (goesK D) n a b (b.size / 64)) else D
def zsec : ByteArray := ⟨(List.replicate 64 (0 : UInt8)).toArray⟩
def readS (D : Dk) (a : Int) : Nat → List UInt8
  | 0 => []
  | k + 1 => readS D a k ++ ((D.now (a + (k : Int))).getD zsec).data.toList
def readB (D : Dk) (a n : Int) : Bool := decide (1 ≤ n) && decide (n ≤ 400) && thereK D a n
def readE (D : Dk) (a n : Int) : Int := if D.on then (if readB D a n then 0 else 30) else 14
def readT (D : Dk) (a n : Int) : ByteArray := if readE D a n = 0 then ⟨(readS D a n.toNat).toArray⟩ else ⟨#[]⟩
def barrierE (D : Dk) (n e : Int) : Int := if mayK D n = 0 then (if admK D n e = 0 then (if goesB D then 14 else 0) else 34) else mayK D n
def barrierK (D : Dk) (n e : Int) : Dk := if mayK D n = 0 ∧ admK D n e = 0 then (if goesB D then goesK D else settleK (goesK D) n) else D
def admitE (D : Dk) (n e : Int) : Int := if mayK D n = 0 then (if e ≤ D.last then 8 else (if goesB D then 14 else 0)) else mayK D n
def admitK (D : Dk) (n e : Int) : Dk := if mayK D n = 0 ∧ ¬ e ≤ D.last then (if goesB D then goesK D else { goesK D with table := updF (goesK D).table n e, last := e }) else D
def fenceE (D : Dk) (n : Int) : Int := if mayK D n = 0 then (if goesB D then 14 else 0) else mayK D n
def fenceK (D : Dk) (n : Int) : Dk := if mayK D n = 0 then (if goesB D then goesK D else { settleK (goesK D) n with table := updF (goesK D).table n 0 }) else D
def putK (D : Dk) (n v : Int) : Dk := if mayK D n = 0 then (if goesB D then goesK D else { goesK D with words := updF (goesK D).words n v }) else D
def epochK (D : Dk) (n : Int) : Int := if inNode n then D.table n else 0
def wordK (D : Dk) (n : Int) : Int := if inNode n then D.words n else 0
def restoreK (D : Dk) : Dk := if 0 < D.room then { D with on := true } else D
def waitingK (D : Dk) (n : Int) : Nat := if D.on then (D.waits.filter fun x => decide (x.n = n)).length else 0

/-- What each disk that a call made keeps to. -/
structure Sane (D : Dk) : Prop where
  room : D.room ≤ 20000
  now : ∀ x s, D.now x = some s → s.size = 64
  lasts : ∀ x r, D.lasts x = some r → r.d.size = 64
  waits : ∀ r ∈ D.waits, r.d.size = 64 ∧ 0 ≤ r.a ∧ r.a < 20000
  left : D.left ≤ 9223372036854775807
theorem sane_new (n : Nat) (h : n ≤ 20000) : Sane (newK n) := ⟨h, fun _ _ h => (by cases h), fun _ _ h => (by cases h), fun r h => (by cases h), by show (0 : Int) ≤ _; decide⟩
theorem keepL_size {L : Int → Option Wr} {w : Wr} (hL : ∀ x r, L x = some r → r.d.size = 64) (hw : w.d.size = 64) : ∀ x r, keepL L w x = some r → r.d.size = 64 := by
  intro x r h
  unfold keepL at h
  split at h
  · by_cases hx : x = w.a
    · subst hx; rw [putF_same] at h; injection h with h; subst h; exact hw
    · rw [putF_other _ _ hx] at h; exact hL x r h
  · exact hL x r h
theorem getD_mem {ws : List Wr} {k : Nat} (h : k < ws.length) : ws.getD k wr0 ∈ ws := by rw [List.getD_eq_getElem?_getD, List.getElem?_eq_getElem h]; exact List.getElem_mem h
theorem cutL_size {L : Int → Option Wr} {ws : List Wr} {keep : List Int} (hL : ∀ x r, L x = some r → r.d.size = 64) (hw : ∀ r ∈ ws, r.d.size = 64) : ∀ k, k ≤ ws.length → ∀ x r, cutL L ws keep k x = some r → r.d.size = 64
  | 0, _ => hL
  | k + 1, hk => by
    unfold cutL
    split
    · exact keepL_size (cutL_size hL hw k (by omega)) (hw _ (getD_mem (by omega)))
    · exact cutL_size hL hw k (by omega)
theorem setL_size {L : Int → Option Wr} {ws : List Wr} {n : Int} (hL : ∀ x r, L x = some r → r.d.size = 64) (hw : ∀ r ∈ ws, r.d.size = 64) : ∀ k, k ≤ ws.length → ∀ x r, setL L ws n k x = some r → r.d.size = 64
  | 0, _ => hL
  | k + 1, hk => by
    unfold setL
    split
    · exact keepL_size (setL_size hL hw k (by omega)) (hw _ (getD_mem (by omega)))
    · exact setL_size hL hw k (by omega)
theorem Sane.cut {D : Dk} (h : Sane D) (keep : List Int) : Sane (cutK D keep) := by
  unfold cutK
  split
  · have hc := cutL_size (keep := keep) h.lasts (fun r hr => (h.waits r hr).1) _ (Nat.le_refl _)
    exact ⟨h.room, fun x s hs => by
      unfold dataOf at hs
      dsimp only at hs
      cases hl : cutL D.lasts D.waits keep D.waits.length x with
      | none => rw [hl] at hs; cases hs
      | some r => rw [hl] at hs; injection hs with hs; subst hs; exact hc x r hl, hc, fun r hr => (by cases hr), by show (-1 : Int) ≤ _; decide⟩
  · exact ⟨h.room, h.now, h.lasts, h.waits, by show (-1 : Int) ≤ _; decide⟩
theorem Sane.goes {D : Dk} (h : Sane D) : Sane (goesK D) := by
  unfold goesK
  split
  · split
    · exact ⟨h.room, h.now, h.lasts, h.waits, by have := h.left; show D.left - 1 ≤ _; omega⟩
    · exact h.cut _
  · exact h
theorem Sane.settle {D : Dk} (h : Sane D) (n : Int) : Sane (settleK D n) :=
  ⟨h.room, h.now, setL_size h.lasts (fun r hr => (h.waits r hr).1) _ (Nat.le_refl _), fun r hr => h.waits r (List.mem_filter.1 hr).1, h.left⟩
theorem Sane.one {D : Dk} (h : Sane D) (n a : Int) (b : ByteArray) (hb : b.size = 64) (ha : 0 ≤ a ∧ a < 20000) : Sane (oneK D n a b) := by
  refine ⟨h.room, fun x s hs => ?_, h.lasts, fun r hr => ?_, h.left⟩
  · unfold oneK at hs
    dsimp only at hs
    by_cases hx : x = a
    · subst hx; rw [putF_same] at hs; injection hs with hs; subst hs; exact hb
    · rw [putF_other _ _ hx] at hs; exact h.now x s hs
  · unfold oneK at hr
    dsimp only at hr
    rcases List.mem_append.1 hr with hr | hr
    · exact h.waits r hr
    · simp at hr; subst hr; exact ⟨hb, ha⟩
theorem sect_size {b : ByteArray} {k : Nat} (h : (k + 1) * 64 ≤ b.size) : (sect b k).size = 64 := by unfold sect; rw [ByteArray.size_extract]; omega
theorem goes_room (D : Dk) : (goesK D).room = D.room := by
  unfold goesK cutK offK
  split
  · split
    · rfl
    · split <;> rfl
  · rfl
end Go.Proofs.YtakilnpfhljgfaaGreat.DK

/- A disk in memory: its block, its two maps, the row of what waits, the row of what a cut keeps. No condition. -/
namespace Go.Proofs.YtakilnpfhljgfaaGreat.DK
set_option maxRecDepth 100000
open Go.RowKit Go.Proofs.YtakilnpfhljgfaaGreat.MI
set_option linter.unusedVariables false

abbrev TD : TypeId := 94
abbrev TW : TypeId := 147
abbrev TI : TypeId := 3
abbrev uv (x : Int) : Value := .int .u64 x
def dcells (D : Dk) (nb lb : Nat) (wv sv : Value) : Array Value :=
  #[.int .i64 (D.room : Int), .bool D.on, .int .i64 (D.seq : Int), .map (some nb), .map (some lb), wv,
    uv (D.table 0), uv (D.table 1), uv (D.table 2), uv (D.table 3), uv (D.table 4), uv (D.table 5), uv (D.table 6), uv (D.table 7), uv (D.table 8), uv (D.table 9), uv (D.table 10), uv (D.table 11), uv (D.table 12), uv (D.table 13), uv (D.table 14), uv (D.table 15), uv (D.table 16),
    uv (D.words 0), uv (D.words 1), uv (D.words 2), uv (D.words 3), uv (D.words 4), uv (D.words 5), uv (D.words 6), uv (D.words 7), uv (D.words 8), uv (D.words 9), uv (D.words 10), uv (D.words 11), uv (D.words 12), uv (D.words 13), uv (D.words 14), uv (D.words 15), uv (D.words 16),
    uv D.last, .bool D.armed, .int .i64 D.left, sv]
/-- Where a disk's parts lie. -/
structure Pl where
  nb : Nat
  lb : Nat
  wa : Option Addr
  wc : Nat
  sa : Option Addr
  sn : Nat
  sc : Nat
/-- The blocks that a call may turn. -/
def fp (g : Nat) (p : Pl) : Nat → Prop := fun k => k = g ∨ k = p.nb ∨ k = p.lb ∨ (Value.slice p.wa 0 0).ownBlock = some k
/-- The block in which stands what a cut keeps: it is read alone. -/
def sp (p : Pl) : Nat → Prop := fun k => ∃ ad, p.sa = some ad ∧ ad.block = k
/-- Block g is a disk; its parts lie as p says; it holds at most N of anything. -/
structure DiskAt (w : World) (B g : Nat) (p : Pl) (N : Nat) (D : Dk) : Prop where
  blk : Blk w g TD (dcells D p.nb p.lb (.slice p.wa D.waits.length p.wc) (.slice p.sa p.sn p.sc))
  now : ∃ n, n ≤ N ∧ MapAt scode Tryz.prog TI w p.nb n D.now
  lasts : ∃ n, n + D.waits.length ≤ N ∧ MapAt wcode Tryz.prog TI w p.lb n D.lasts
  waits : w.ownsRow B TW 4 (.slice p.wa D.waits.length p.wc) D.waits.length (D.waits.flatMap wval)
  stays : Lies w 1 p.sa p.sn (D.stays.map (Value.int .i64))
  sn : p.sn ≤ p.sc ∧ p.sc ≤ maxLen ∧ (p.sa = none → p.sn = 0 ∧ p.sc = 0) ∧ (∀ ad, p.sa = some ad → ∃ b, ad = ⟨b, 0, none⟩)
  far : Apart (sp p) (fp g p)
  spl : ∀ k, sp p k → True ∧ k < w.heap.size
  geg : B ≤ g
  gen : B ≤ p.nb
  gel : B ≤ p.lb
  ne : p.nb ≠ p.lb
  seq : D.seq ≤ N
  sane : Sane D
def DiskOut (w : World) (B g : Nat) (p : Pl) (N : Nat) (D : Dk) (w' : World) : Prop :=
  ∃ p', DiskAt w' B g p' N D ∧ Keeps (fp g p) w w' ∧ Grows w (fp g p) (fp g p') ∧ Grows w (sp p) (sp p')

theorem underN : Tryz.prog.underlying 90 = some (.map TI 9) := Tryz.underlying90
theorem underL : Tryz.prog.underlying 91 = some (.map TI TW) := Tryz.underlying91
theorem underI : Tryz.prog.underlying TI = some (.int .i64) := Tryz.underlying3
theorem zeroS (w : World) : (zeroValue 9).run Tryz.prog w = .ok (scode.enc (ByteArray.mk #[])) w := by kernel_rfl
theorem zeroW (w : World) : (zeroValue TW).run Tryz.prog w = .ok (wcode.enc wr0) w := by kernel_rfl

section
variable {w w' : World} {B g N : Nat} {p : Pl} {D : Dk}
theorem own_blk {a : Option Addr} {n c : Nat} : (Value.slice a n c).ownBlock = (Value.slice a 0 0).ownBlock := by cases a <;> rfl
theorem DiskAt.lt (h : DiskAt w B g p N D) : ∀ k, fp g p k → k < w.heap.size := by
  intro k hk
  rcases hk with rfl | rfl | rfl | hk
  · exact h.blk.lt
  · obtain ⟨n, _, hm⟩ := h.now; exact hm.lt
  · obtain ⟨n, _, hm⟩ := h.lasts; exact hm.lt
  · exact (h.waits.lt k (by rw [own_blk]; exact hk)).2
theorem DiskAt.ge (h : DiskAt w B g p N D) : ∀ k, fp g p k → B ≤ k := by
  intro k hk
  rcases hk with rfl | rfl | rfl | hk
  · exact h.geg
  · exact h.gen
  · exact h.gel
  · exact (h.waits.lt k (by rw [own_blk]; exact hk)).1
theorem DiskAt.base (h : DiskAt w B g p N D) : B ≤ w.heap.size := by have := h.geg; have := h.blk.lt; omega
theorem DiskAt.neGN (h : DiskAt w B g p N D) : p.nb ≠ g := by obtain ⟨n, _, hm⟩ := h.now; exact hm.blk h.blk
theorem DiskAt.neGL (h : DiskAt w B g p N D) : p.lb ≠ g := by obtain ⟨n, _, hm⟩ := h.lasts; exact hm.blk h.blk
theorem DiskAt.neW (h : DiskAt w B g p N D) : ∀ k, (Value.slice p.wa 0 0).ownBlock = some k → k ≠ g ∧ k ≠ p.nb ∧ k ≠ p.lb := by
  intro k hk
  refine ⟨?_, ?_, ?_⟩
  · rintro rfl
    have := own_ne h.waits h.blk (show TW ≠ TD by decide)
    rw [own_blk] at this
    exact this hk
  · rintro rfl
    obtain ⟨n, _, hm⟩ := h.now
    obtain ⟨es, cl, ho⟩ := hm.obj
    have := own_map_ne h.waits ho
    rw [own_blk] at this
    exact this hk
  · rintro rfl
    obtain ⟨n, _, hm⟩ := h.lasts
    obtain ⟨es, cl, ho⟩ := hm.obj
    have := own_map_ne h.waits ho
    rw [own_blk] at this
    exact this hk
/-- A disk stays what it is while nothing of it is turned. -/
theorem DiskAt.keeps {S : Nat → Prop} (h : DiskAt w B g p N D) (hk : Keeps S w w') (hn : Apart (fp g p) S) (hs : Apart (sp p) S) : DiskAt w' B g p N D := by
  refine ⟨h.blk.keeps hk (fun hs => hn g (.inl rfl) hs), ?_, ?_, own_keeps h.waits hk (fun k hk' hs => hn k (.inr (.inr (.inr (by rw [own_blk] at hk'; exact hk')))) hs), h.stays.keeps (by omega) hk (fun ad e hs' => hs _ ⟨ad, e, rfl⟩ hs'), h.sn, h.far, fun k hk' => ⟨(h.spl k hk').1, Nat.lt_of_lt_of_le (h.spl k hk').2 hk.size⟩, h.geg, h.gen, h.gel, h.ne, h.seq, h.sane⟩
  · obtain ⟨n, h1, h2⟩ := h.now; exact ⟨n, h1, h2.keeps hk (fun hs => hn _ (.inr (.inl rfl)) hs)⟩
  · obtain ⟨n, h1, h2⟩ := h.lasts; exact ⟨n, h1, h2.keeps hk (fun hs => hn _ (.inr (.inr (.inl rfl))) hs)⟩
theorem apart_none (F : Nat → Prop) : Apart F (fun _ => False) := fun _ _ h => h
theorem DiskAt.old (h : DiskAt w B g p N D) (hb : Below w.heap.size w w') : DiskAt w' B g p N D :=
  h.keeps (Keeps.of_below hb (fun _ => False)) (apart_none _) (apart_none _)
theorem DiskAt.alloc (h : DiskAt w B g p N D) (o : Obj) : DiskAt (w.alloc o) B g p N D := h.keeps (S := fun _ => False) ((Keeps.refl _ _).alloc o) (apart_none _) (apart_none _)
theorem DiskAt.drew (h : DiskAt w B g p N D) : DiskAt w.drew B g p N D := h.keeps (S := fun _ => False) ((Keeps.refl _ _).drew) (apart_none _) (apart_none _)
theorem DiskAt.drewN (h : DiskAt w B g p N D) (n : Nat) : DiskAt (w.drewN n) B g p N D := h.keeps (S := fun _ => False) ((Keeps.refl _ _).drewN n) (apart_none _) (apart_none _)
theorem DiskAt.mono (h : DiskAt w B g p N D) {N' : Nat} (hN : N ≤ N') : DiskAt w B g p N' D := by
  obtain ⟨n, h1, h2⟩ := h.now
  obtain ⟨m, h3, h4⟩ := h.lasts
  exact { h with now := ⟨n, by omega, h2⟩, lasts := ⟨m, by omega, h4⟩, seq := by have := h.seq; omega }
theorem DiskAt.out (h : DiskAt w B g p N D) : DiskOut w B g p N D w := ⟨p, h, Keeps.refl _ _, Grows.refl _ _, Grows.refl _ _⟩
theorem DiskOut.then_ {w2 : World} (h : DiskOut w B g p N D w') (hb : Below w'.heap.size w' w2) : DiskOut w B g p N D w2 := by
  obtain ⟨p', h1, h2, h3, h4⟩ := h
  exact ⟨p', h1.old hb, h2.trans (Keeps.of_below hb (fun _ => False)) (fun _ _ h => h.elim), h3, h4⟩
theorem DiskOut.from_ {w0 : World} (hb : Below w0.heap.size w0 w) (h : DiskOut w B g p N D w') : DiskOut w0 B g p N D w' := by
  obtain ⟨p', h1, h2, h3, h4⟩ := h
  exact ⟨p', h1, (Keeps.of_below hb (fp g p)).trans h2 (fun _ _ h => h), fun k hk => (h3 k hk).imp id (fun h => Nat.le_trans hb.size h), fun k hk => (h4 k hk).imp id (fun h => Nat.le_trans hb.size h)⟩
/-- Two calls, one behind the other. -/
theorem DiskOut.seq {N2 : Nat} {D2 : Dk} {w2 : World} (h : DiskOut w B g p N D w') (k : ∀ p', DiskAt w' B g p' N D → DiskOut w' B g p' N2 D2 w2) : DiskOut w B g p N2 D2 w2 := by
  obtain ⟨p', h1, h2, h3, h4⟩ := h
  obtain ⟨p2, k1, k2, k3, k4⟩ := k p' h1
  exact ⟨p2, k1, h2.then_ h3 k2, h3.trans h2.size k3, h4.trans h2.size k4⟩
theorem DiskOut.mono (h : DiskOut w B g p N D w') {N' : Nat} (hN : N ≤ N') : DiskOut w B g p N' D w' := by
  obtain ⟨p', h1, h2⟩ := h; exact ⟨p', h1.mono hN, h2⟩
/-- Cells of the disk's own block are turned; its parts stand where they stood. -/
theorem DiskAt.turn {D' : Dk} (h : DiskAt w B g p N D) (hk : Keeps (only g) w w') (hb : Blk w' g TD (dcells D' p.nb p.lb (.slice p.wa D'.waits.length p.wc) (.slice p.sa p.sn p.sc)))
    (e1 : D'.now = D.now) (e2 : D'.lasts = D.lasts) (e3 : D'.waits = D.waits) (e4 : D'.stays = D.stays) (e5 : D'.seq ≤ N) (e6 : Sane D') : DiskAt w' B g p N D' := by
  refine ⟨hb, ?_, ?_, ?_, ?_, h.sn, h.far, fun k hk' => ⟨(h.spl k hk').1, Nat.lt_of_lt_of_le (h.spl k hk').2 hk.size⟩, h.geg, h.gen, h.gel, h.ne, e5, e6⟩
  · obtain ⟨n, h1, h2⟩ := h.now; rw [e1]; exact ⟨n, h1, h2.keeps hk h.neGN⟩
  · obtain ⟨n, h1, h2⟩ := h.lasts; rw [e2, e3]; exact ⟨n, h1, h2.keeps hk h.neGL⟩
  · rw [e3]; exact own_keeps h.waits hk (fun k hk' => (h.neW k (by rw [own_blk] at hk'; exact hk')).1)
  · rw [e4]; exact h.stays.keeps (by omega) hk (fun ad e hs => h.far _ ⟨ad, e, rfl⟩ (.inl hs))
theorem DiskAt.turnOut {D' : Dk} (h : DiskAt w B g p N D) (hk : Keeps (only g) w w') (hb : Blk w' g TD (dcells D' p.nb p.lb (.slice p.wa D'.waits.length p.wc) (.slice p.sa p.sn p.sc)))
    (e1 : D'.now = D.now) (e2 : D'.lasts = D.lasts) (e3 : D'.waits = D.waits) (e4 : D'.stays = D.stays) (e5 : D'.seq ≤ N) (e6 : Sane D') : DiskOut w B g p N D' w' :=
  ⟨p, h.turn hk hb e1 e2 e3 e4 e5 e6, hk.mono (fun k _ e => .inl e), Grows.refl _ _, Grows.refl _ _⟩
end

/-! ### the cells of a disk's block -/
section
variable (D : Dk) (nb lb : Nat) (wv sv : Value)
theorem node_cases {n : Int} (h : inNode n = true) : n = 0 ∨ n = 1 ∨ n = 2 ∨ n = 3 ∨ n = 4 ∨ n = 5 ∨ n = 6 ∨ n = 7 ∨ n = 8 ∨ n = 9 ∨ n = 10 ∨ n = 11 ∨ n = 12 ∨ n = 13 ∨ n = 14 ∨ n = 15 ∨ n = 16 := by
  unfold inNode at h
  simp at h
  omega
theorem cell_tab {n : Int} (h : inNode n = true) : (dcells D nb lb wv sv)[6 + n.toNat]? = some (uv (D.table n)) := by
  rcases node_cases h with rfl | rfl | rfl | rfl | rfl | rfl | rfl | rfl | rfl | rfl | rfl | rfl | rfl | rfl | rfl | rfl | rfl <;> rfl
theorem cell_word {n : Int} (h : inNode n = true) : (dcells D nb lb wv sv)[23 + n.toNat]? = some (uv (D.words n)) := by
  rcases node_cases h with rfl | rfl | rfl | rfl | rfl | rfl | rfl | rfl | rfl | rfl | rfl | rfl | rfl | rfl | rfl | rfl | rfl <;> rfl
theorem set_tab {n : Int} (h : inNode n = true) (v : Int) : (dcells D nb lb wv sv).setIfInBounds (6 + n.toNat) (uv v) = dcells { D with table := updF D.table n v } nb lb wv sv := by
  rcases node_cases h with rfl | rfl | rfl | rfl | rfl | rfl | rfl | rfl | rfl | rfl | rfl | rfl | rfl | rfl | rfl | rfl | rfl <;> rfl
theorem set_word {n : Int} (h : inNode n = true) (v : Int) : (dcells D nb lb wv sv).setIfInBounds (23 + n.toNat) (uv v) = dcells { D with words := updF D.words n v } nb lb wv sv := by
  rcases node_cases h with rfl | rfl | rfl | rfl | rfl | rfl | rfl | rfl | rfl | rfl | rfl | rfl | rfl | rfl | rfl | rfl | rfl <;> rfl
theorem set_on (v : Bool) : (dcells D nb lb wv sv).setIfInBounds 1 (.bool v) = dcells { D with on := v } nb lb wv sv := rfl
theorem set_seq (v : Nat) : (dcells D nb lb wv sv).setIfInBounds 2 (.int .i64 (v : Int)) = dcells { D with seq := v } nb lb wv sv := rfl
theorem set_now (v : Nat) : (dcells D nb lb wv sv).setIfInBounds 3 (.map (some v)) = dcells D v lb wv sv := rfl
theorem set_waits (v : Value) : (dcells D nb lb wv sv).setIfInBounds 5 v = dcells D nb lb v sv := rfl
theorem set_last (v : Int) : (dcells D nb lb wv sv).setIfInBounds 40 (uv v) = dcells { D with last := v } nb lb wv sv := rfl
theorem set_armed (v : Bool) : (dcells D nb lb wv sv).setIfInBounds 41 (.bool v) = dcells { D with armed := v } nb lb wv sv := rfl
theorem set_left (v : Int) : (dcells D nb lb wv sv).setIfInBounds 42 (.int .i64 v) = dcells { D with left := v } nb lb wv sv := rfl
theorem set_stays (v : Value) : (dcells D nb lb wv sv).setIfInBounds 43 v = dcells D nb lb wv v := rfl
end
end Go.Proofs.YtakilnpfhljgfaaGreat.DK

/- The disk's calls that read alone: On, may, admits, there, Epoch, Word, Last, Sectors, and New. No condition. -/
namespace Go.Proofs.YtakilnpfhljgfaaGreat.DK
set_option maxRecDepth 100000
open Go.RowKit Go.Proofs.YtakilnpfhljgfaaGreat.MI
set_option linter.unusedVariables false
set_option linter.unusedSimpArgs false

section
variable {w w' : World} {B g N : Nat} {p : Pl} {D : Dk}
theorem on_any (h : DiskAt w B g p N D) : Calls Tryz.prog 85 #[.pointer (some ⟨g, 0, none⟩)] w fun e w' => e = .returned (.bool D.on) ∧ w' = w := by
  have c1 : w.cell? ⟨g, 1, none⟩ = some (.bool D.on) := h.blk.cell 1
  go_enter Tryz.func85, Tryz.ntmps85
  go_wp2
  go_ret
  exact ⟨rfl, rfl⟩
theorem may_any (h : DiskAt w B g p N D) (n : Int) : Calls Tryz.prog 64 #[.pointer (some ⟨g, 0, none⟩), .int .i64 n] w fun e w' => e = .returned (.int .i64 (mayK D n)) ∧ w' = w := by
  have ko := on_any h
  unfold mayK inNode
  obtain ⟨o, ho⟩ : ∃ o, D.on = o := ⟨_, rfl⟩
  rw [ho] at ko ⊢
  clear ho h
  cases o
  · go_enter Tryz.func64, Tryz.ntmps64
    go_wp2_with (go_at_call 85; refine ko.mono ?_; rintro e w1 ⟨rfl, rfl⟩)
    go_ret
    exact ⟨rfl, rfl⟩
  · by_cases h1 : 0 ≤ n
    · by_cases h2 : n ≤ 16
      · have b1 : decide (n < 0) = false := by simpa using h1
        have b2 : decide (16 < n) = false := by simpa using h2
        go_enter Tryz.func64, Tryz.ntmps64
        go_wp2_with (go_at_call 85; refine ko.mono ?_; rintro e w1 ⟨rfl, rfl⟩)
        go_ret
        exact ⟨by simp [h1, h2], rfl⟩
      · have b1 : decide (n < 0) = false := by simpa using h1
        have b2 : decide (16 < n) = true := by simp; omega
        go_enter Tryz.func64, Tryz.ntmps64
        go_wp2_with (go_at_call 85; refine ko.mono ?_; rintro e w1 ⟨rfl, rfl⟩)
        go_ret
        exact ⟨by simp [h1, h2], rfl⟩
    · have b1 : decide (n < 0) = true := by simp; omega
      go_enter Tryz.func64, Tryz.ntmps64
      go_wp2_with (go_at_call 85; refine ko.mono ?_; rintro e w1 ⟨rfl, rfl⟩)
      go_ret
      exact ⟨by simp [h1], rfl⟩
theorem admits_any (h : DiskAt w B g p N D) (n e : Int) (hn : inNode n = true) : Calls Tryz.prog 81 #[.pointer (some ⟨g, 0, none⟩), .int .i64 n, .int .u64 e] w fun e' w' => e' = .returned (.int .i64 (admK D n e)) ∧ w' = w := by
  have c1 : w.cell? ⟨g, 6 + n.toNat, none⟩ = some (uv (D.table n)) := (h.blk.cell _).trans (cell_tab _ _ _ _ _ hn)
  have h1 : 0 ≤ n := by unfold inNode at hn; simp at hn; omega
  have h2 : n < 17 := by unfold inNode at hn; simp at hn; omega
  have h3 : n.toNat < 17 := by omega
  unfold admK
  obtain ⟨t, ht⟩ : ∃ t, D.table n = t := ⟨_, rfl⟩
  rw [ht] at c1 ⊢
  clear ht h hn
  by_cases he : e = 0
  · subst he
    go_enter Tryz.func81, Tryz.ntmps81
    go_wp2
    go_ret
    exact ⟨rfl, rfl⟩
  · have b1 : (e == 0) = false := by simpa using he
    by_cases ht : t = e
    · have b2 : (t != e) = false := by simp [ht]
      have hres : (if (e == 0 || !(t == e)) = true then 34 else 0 : Int) = 0 := by rw [b1, ht]; simp
      rw [hres]
      clear hres ht he
      go_enter Tryz.func81, Tryz.ntmps81
      go_wp2
      go_ret
      exact ⟨rfl, rfl⟩
    · have b2 : (t != e) = true := by simp [ht]
      have hres : (if (e == 0 || !(t == e)) = true then 34 else 0 : Int) = 34 := by simp [b1, ht]
      rw [hres]
      clear hres ht he
      go_enter Tryz.func81, Tryz.ntmps81
      go_wp2
      go_ret
      exact ⟨rfl, rfl⟩
theorem there_any (h : DiskAt w B g p N D) (a n : Int) : Calls Tryz.prog 86 #[.pointer (some ⟨g, 0, none⟩), .int .i64 a, .int .i64 n] w fun e' w' => e' = .returned (.bool (thereK D a n)) ∧ w' = w := by
  have c0 : w.cell? ⟨g, 0, none⟩ = some (.int .i64 (D.room : Int)) := h.blk.cell 0
  have hr := h.sane.room
  unfold thereK
  obtain ⟨r, ht⟩ : ∃ r, D.room = r := ⟨_, rfl⟩
  rw [ht] at c0 hr ⊢
  clear ht h
  by_cases h1 : 0 ≤ a
  · by_cases h2 : a ≤ (r : Int)
    · have b1 : decide (0 ≤ a) = true := by simpa using h1
      have b2 : decide (a ≤ (r : Int)) = true := by simpa using h2
      have e1 : IntKind.i64.wrap ((r : Int) - a) = (r : Int) - a := IntWalk.i64_in _ (by omega)
      go_enter Tryz.func86, Tryz.ntmps86
      go_wp2
      go_ret
      exact ⟨by simp [h1, h2], rfl⟩
    · have b1 : decide (0 ≤ a) = true := by simpa using h1
      have b2 : decide (a ≤ (r : Int)) = false := by simpa using h2
      go_enter Tryz.func86, Tryz.ntmps86
      go_wp2
      go_ret
      exact ⟨by simp [h1, h2], rfl⟩
  · have b1 : decide (0 ≤ a) = false := by simpa using h1
    go_enter Tryz.func86, Tryz.ntmps86
    go_wp2
    go_ret
    exact ⟨by simp [h1], rfl⟩
theorem last_any (h : DiskAt w B g p N D) : Calls Tryz.prog 60 #[.pointer (some ⟨g, 0, none⟩)] w fun e w' => e = .returned (.int .u64 D.last) ∧ w' = w := by
  have c1 : w.cell? ⟨g, 40, none⟩ = some (uv D.last) := h.blk.cell 40
  go_enter Tryz.func60, Tryz.ntmps60
  go_wp2
  go_ret
  exact ⟨rfl, rfl⟩
theorem sectors_any (h : DiskAt w B g p N D) : Calls Tryz.prog 56 #[.pointer (some ⟨g, 0, none⟩)] w fun e w' => e = .returned (.int .i64 (D.room : Int)) ∧ w' = w := by
  have c1 : w.cell? ⟨g, 0, none⟩ = some (.int .i64 (D.room : Int)) := h.blk.cell 0
  go_enter Tryz.func56, Tryz.ntmps56
  go_wp2
  go_ret
  exact ⟨rfl, rfl⟩
end
def p0 (b : Nat) : Pl := ⟨b, b + 1, none, 0, none, 0, 0⟩
theorem new_at (w0 w : World) (hb : Below w0.heap.size w0 w) (n : Nat) (hn : n ≤ 20000) :
    DiskAt (((w.alloc (.map #[] 0)).alloc (.map #[] 0)).alloc (.cells (dcells (newK n) w.heap.size (w.heap.size + 1) (.slice none 0 0) (.slice none 0 0)) TD)) w0.heap.size (w.heap.size + 1 + 1) ⟨w.heap.size, w.heap.size + 1, none, 0, none, 0, 0⟩ 0 (newK n) := by
  have hs := hb.size
  have e1 : (w.alloc (.map #[] 0)).heap.size = w.heap.size + 1 := by simp
  have e2 : ((w.alloc (.map #[] 0)).alloc (.map #[] 0)).heap.size = w.heap.size + 1 + 1 := by simp
  refine ⟨?_, ⟨0, Nat.le_refl _, ((MapAt.made w).alloc _).alloc _⟩, ⟨0, Nat.le_refl _, ?_⟩, World.ownsRow_nil _ _ _ _, Lies.nil, ⟨Nat.le_refl _, Nat.zero_le _, fun _ => ⟨rfl, rfl⟩, fun ad e => by cases e⟩, fun k hk => ?_, fun k hk => ?_, by omega, hs, by show w0.heap.size ≤ w.heap.size + 1; omega, by show w.heap.size ≠ w.heap.size + 1; omega, Nat.le_refl _, sane_new n hn⟩
  · rw [← e2]; exact Blk.new _ _ _
  · show MapAt wcode Tryz.prog TI _ (w.heap.size + 1) 0 _
    rw [← e1]
    exact (MapAt.made (w.alloc (.map #[] 0))).alloc _
  · obtain ⟨ad, e, _⟩ := hk; cases e
  · obtain ⟨ad, e, _⟩ := hk; cases e
theorem disk_new (w0 w : World) (hb : Below w0.heap.size w0 w) (n : Nat) (hn : n ≤ 20000) :
    Calls Tryz.prog 26 #[.int .i64 (n : Int)] w fun e w' => (1 ≤ n → ∃ g p, e = .returned (.pointer (some ⟨g, 0, none⟩)) ∧ DiskAt w' w0.heap.size g p 0 (newK n) ∧ Below w0.heap.size w0 w') ∧ (n = 0 → e = .returned (.pointer none) ∧ w' = w) := by
  by_cases h1 : 1 ≤ n
  · have b1 : decide ((n : Int) < 1) = false := by simp; omega
    have b2 : decide (20000 < (n : Int)) = false := by simp; omega
    have hmm := @run_makeMap Tryz.prog
    go_enter Tryz.func26, Tryz.ntmps26
    go_wp2
    go_ret
    refine ⟨fun _ => ⟨w.heap.size + 1 + 1, ⟨w.heap.size, w.heap.size + 1, none, 0, none, 0, 0⟩, rfl, new_at w0 w hb n hn, ?_⟩, fun h => absurd h (by omega)⟩
    exact ((hb.alloc hb.size _).alloc (by have := hb.size; simp; omega) _).alloc (by have := hb.size; simp; omega) _
  · obtain rfl : n = 0 := by omega
    go_enter Tryz.func26, Tryz.ntmps26
    go_wp2
    go_ret
    exact ⟨fun h => absurd h (by omega), fun _ => ⟨rfl, rfl⟩⟩
end Go.Proofs.YtakilnpfhljgfaaGreat.DK

/- The library's functions that the disk calls: a copy of a row (slices.Clone), of a map (maps.Clone), a builder's WriteString and String, strings.Clone. No condition. -/
namespace Go.Proofs.YtakilnpfhljgfaaGreat.DK
set_option maxRecDepth 100000
open Go.RowKit Go.Proofs.YtakilnpfhljgfaaGreat.MI
set_option linter.unusedVariables false
set_option linter.unusedSimpArgs false

theorem infI : (Tryz.prog.info? 3).map (fun i => (i.zero, i.size, i.bytes)) = some (some (.int .i64 0), 1, 8) := by kernel_rfl
theorem infU : (Tryz.prog.info? 37).map (fun i => (i.zero, i.size, i.bytes)) = some (some (.int .u64 0), 1, 8) := by kernel_rfl
theorem infB : (Tryz.prog.info? 5).map (fun i => (i.zero, i.size, i.bytes)) = some (some (.int .u8 0), 1, 1) := by kernel_rfl
theorem infW : (Tryz.prog.info? 147).map (fun i => (i.zero, i.size, i.bytes)) = some (some (wagg wr0), 4, 40) := by kernel_rfl
/-- A copy of a row: new, unless there was none. -/
def CloneOut (w : World) (e : TypeId) (size : Nat) (A : Option Addr) (m : Nat) (xs : List Value) (x : Ending) (w' : World) : Prop :=
  ∃ a c, x = .returned (.slice a m c) ∧ w'.ownsRow w.heap.size e size (.slice a m c) m xs ∧ Below w.heap.size w w' ∧ (A = none → a = none)

theorem clone_int (w : World) (A : Option Addr) (m c : Nat) (xs : List Value) (hl : Lies w 1 A m xs) (h1 : ∀ u ∈ xs, u.oneCell' = true) (hm : m ≤ 1000000000000) (hn : A = none → m = 0 ∧ c = 0) :
    Calls Tryz.prog 122 #[.slice A m c] w (CloneOut w 3 1 A m xs) := by
  have q : ∀ (w : World) (a : Option Addr) (n c n' c' : Nat), (binOp .eql 46 (.slice a n c) (.slice none n' c')).run Tryz.prog w = .ok (.bool a.isNone) w := fun w a n c n' c' => Lib.run_eql_slice_nil w _ _ a n c n' c' Tryz.underlying46
  cases A with
  | none =>
    obtain ⟨rfl, rfl⟩ := hn rfl
    have hx : xs = [] := List.eq_nil_of_length_eq_zero (by have := hl.1; simpa using this)
    subst hx
    clear hl h1 hn hm
    go_enter Tryz.func122, Tryz.ntmps122
    go_wp2
    go_ret
    exact ⟨none, 0, rfl, World.ownsRow_nil _ _ _ _, Below.refl _ _, fun _ => rfl⟩
  | some ad =>
    obtain ⟨i0, hi, hz0, hz1, hz2⟩ := info_parts infI
    have HL := Lib.hid hl
    have H1 := Lib.hid h1
    clear hl h1 hn
    go_enter Tryz.func122, Tryz.ntmps122
    go_wp2_with (at_builtin; refine wpList_append_lie _ rfl _ _ 46 rfl w.heap.size 3 i0 _ 1 8 Tryz.underlying46 hi hz0 hz1 hz2 rfl (by decide) (some ⟨w.heap.size, 0, none⟩) 0 0 [] rfl (World.ownsRow_made w #[] 0 (Nat.le_refl _) (Nat.zero_le _) rfl) (some ad) m c xs rfl (HL.out.old (by decide) ((Below.refl _ w).alloc (Nat.le_refl _) _)) H1.out (by unfold maxLen; omega) (by omega) (by simp) ?_; intro a1 cp1 w1 hown1 hg1 hat1)
    rw [Nat.zero_add, List.nil_append] at hown1
    have O1 := Lib.hid hown1
    have hb1 : Below w.heap.size w w1 := ((Below.refl _ w).alloc (Nat.le_refl _) _).grown hg1 (by simp) (by intro k hk; simp [Value.ownBlock] at hk; omega)
    clear hown1 hg1 hat1
    go_wp2
    go_ret
    exact ⟨a1, cp1, by simp, O1.out, hb1, fun h => by cases h⟩

/-! ### a builder -/
theorem sizeBuilder : (Tryz.prog.info? 121).map (fun i => i.size) = some 2 := by kernel_rfl
theorem liesBuilder : liesAt Tryz.prog Tryz.prog.depth 121 (2 / Tryz.prog.cellsOf 121) 0 121 1 = true := by kernel_rfl
theorem copyCheck_any (B b : Nat) (bs : List Value) (w : World) (h : Lib.IsBuilder 121 5 B b bs w) :
    Calls Tryz.prog 109 #[.pointer (some ⟨b, 0, none⟩)] w fun e w' => e = .returned (.tuple #[]) ∧ Lib.BuilderAt 121 5 B b (.pointer (some ⟨b, 0, none⟩)) bs w' ∧ Below B w w' := by
  obtain ⟨j, hj, hjs⟩ := Option.map_eq_some_iff.1 sizeBuilder
  rcases h with h | h
  · have c0 := h.cell0
    have hsh := h.shape
    have f0 := h.frozen0
    have hf : Lib.BuilderAt 121 5 B b (.pointer (some ⟨b, 0, none⟩)) bs (w.setCell ⟨b, 0, none⟩ (.pointer (some ⟨b, 0, none⟩))) ∧ Below B w (w.setCell ⟨b, 0, none⟩ (.pointer (some ⟨b, 0, none⟩))) := ⟨h.used _, (Below.refl B w).setCell (p := ⟨b, 0, none⟩) h.1 _⟩
    have HF := Lib.hid hf
    clear hf h
    go_enter Tryz.func109, Tryz.ntmps109
    go_wp2
    rw [Lib.run_to_unsafe w ⟨b, 0, none⟩ Tryz.underlying119 Tryz.underlying166 hj (by rw [hjs]; decide) hsh (Nat.zero_lt_succ 1)]
    simp only [Result.andThen]
    rw [Oper.upon_value]
    go_wp2
    rw [run_callFunc_extern Tryz.func120 (by kernel_rfl) (by kernel_rfl) (by kernel_rfl) (e := Extern.AbiNoEscape.same) (by kernel_rfl)]
    rw [Lib.run_noEscape]
    simp only [Result.andThen]
    rw [Oper.upon_value]
    go_wp2
    rw [Lib.run_from_unsafe w ⟨b, 0, none⟩ Tryz.underlying166 Tryz.underlying119 hj hsh liesBuilder]
    simp only [Result.andThen]
    rw [Oper.upon_value]
    go_wp2
    refine bodyPost_end (results_none rfl _ _ _) rfl ?_
    exact ⟨rfl, HF.out⟩
  · have c0 := h.cell0
    have HF := Lib.hid h
    clear h
    go_enter Tryz.func109, Tryz.ntmps109
    go_wp2
    rw [Lib.run_neq_ptr_same w _ Tryz.underlying119 hj]
    go_wp2
    refine bodyPost_end (results_none rfl _ _ _) rfl ?_
    exact ⟨rfl, HF.out, Below.refl B _⟩
theorem builder_open {B b : Nat} {bs : List Value} {w w1 : World} (s : ByteArray) (hBw : B ≤ w.heap.size) (h1 : Lib.BuilderAt 121 5 B b (.pointer (some ⟨b, 0, none⟩)) bs w1) (hb1 : Below B w w1) :
    ∃ ao1 cap1, w1.cell? ⟨b, 1, none⟩ = some (.slice ao1 bs.length cap1) ∧ B ≤ w1.heap.size ∧ Hid (w1.ownsRow B 5 1 (.slice ao1 bs.length cap1) bs.length bs) ∧
      Hid (∀ (v' : Value) (w2 : World), w2.ownsRow B 5 1 v' (bs.length + s.size) (bs ++ Lib.strCells s) → w1.grownBy w2 (Value.slice ao1 bs.length cap1).ownBlock →
      ∃ ao n' cap, v' = .slice ao n' cap ∧ w2.cell? ⟨b, 0, none⟩ = some (.pointer (some ⟨b, 0, none⟩)) ∧ w2.cell? ⟨b, 1, none⟩ = some (.slice ao1 bs.length cap1) ∧ w2.frozen? ⟨b, 1, none⟩ = false ∧
        Hid (Lib.BuilderAt 121 5 B b (.pointer (some ⟨b, 0, none⟩)) (bs ++ Lib.strCells s) (w2.setCell ⟨b, 1, none⟩ (.slice ao n' cap)) ∧ Below B w (w2.setCell ⟨b, 1, none⟩ (.slice ao n' cap)))) := by
  obtain ⟨hB, v, hbk, hown, hne⟩ := h1
  obtain ⟨ao1, cap1, rfl⟩ : ∃ ao cap, v = .slice ao bs.length cap := by
    rcases hown.2 with ⟨hv, h0⟩ | ⟨g, cap, cur, hv, _⟩
    · exact ⟨none, 0, by rw [hv, h0]⟩
    · exact ⟨_, _, hv⟩
  refine ⟨ao1, cap1, by rw [Lib.cell_of_heap hbk]; rfl, Nat.le_trans hBw hb1.size, Lib.hid hown, Lib.hid ?_⟩
  intro v' w2 hown' hgrow
  have hlt : b < w1.heap.size := by
    rcases Nat.lt_or_ge b w1.heap.size with h' | h'
    · exact h'
    · simp [Array.getElem?_eq_none h'] at hbk
  have hb2 : w2.heap[b]? = some (.cells #[.pointer (some ⟨b, 0, none⟩), .slice ao1 bs.length cap1] 121 (0, 0)) := by
    rw [hgrow.block b hlt (fun e => hne e.symm)]
    exact hbk
  obtain ⟨ao, n', cap, rfl⟩ : ∃ ao n' cap, v' = .slice ao n' cap := by
    rcases hown'.2 with ⟨hv, _⟩ | ⟨g, cap, cur, hv, _⟩
    · exact ⟨_, _, _, hv⟩
    · exact ⟨_, _, _, hv⟩
  exact ⟨ao, n', cap, rfl, by rw [Lib.cell_of_heap hb2]; rfl, by rw [Lib.cell_of_heap hb2]; rfl, Lib.frozen_of_heap hb2 1, Lib.hid ⟨Lib.BuilderAt.put hB hb2 (bs' := bs ++ Lib.strCells s) (by simpa [Lib.strCells_length] using hown') (by decide), (hb1.grown hgrow (by have := hb1.size; omega) (fun k hk => (hown.lt k hk).1)).setCell (p := ⟨b, 1, none⟩) hB _⟩⟩
theorem writeString_any (B b : Nat) (bs : List Value) (s : ByteArray) (w : World) (h : Lib.IsBuilder 121 5 B b bs w) (hlen : bs.length + s.size ≤ 140737488355328) (hBw : B ≤ w.heap.size) :
    Calls Tryz.prog 88 #[.pointer (some ⟨b, 0, none⟩), .string s] w fun e w' => e = .returned (.tuple #[.int .i64 s.size, .nilIface]) ∧ Lib.BuilderAt 121 5 B b (.pointer (some ⟨b, 0, none⟩)) (bs ++ Lib.strCells s) w' ∧ Below B w w' := by
  obtain ⟨i0, hi, hz0, hz1, hz2⟩ := info_parts infB
  have kc := copyCheck_any B b bs w h
  clear h
  go_enter Tryz.func88, Tryz.ntmps88
  go_wp2_with (first
    | (go_at_call 109; refine kc.mono ?_; rintro e w1 ⟨rfl, h1, hb1⟩; obtain ⟨ao1, cap1, c1, hsz, O1, FIN⟩ := builder_open s hBw h1 hb1; clear h1 hb1)
    | (at_builtin; refine Lib.wpList_append_own_string _ rfl _ _ 84 9 rfl B 5 i0 Tryz.underlying84 Tryz.underlying9 hi hz0 hz1 hz2 _ _ _ rfl O1.out s rfl (by unfold maxLen; omega) (by omega) (by omega) ?_; intro v' w2 hown' hgrow hnil; obtain ⟨ao, n', cap, rfl, d0, d1, f1, HF⟩ := FIN.out v' w2 hown' hgrow; clear hown' hgrow hnil FIN))
  go_ret2
  exact ⟨rfl, HF.out⟩
theorem strClone_any (s : ByteArray) (w : World) (h : s.size ≤ 281474976710656) : Calls Tryz.prog 100 #[.string s] w fun e w' => e = .returned (.string s) ∧ Below w.heap.size w w' := by
  have kc := Tryz.stringslite_Clone s w h
  go_enter Tryz.func100, Tryz.ntmps100
  go_wp2_with (go_at_call 115; refine kc.mono ?_; rintro e w1 ⟨rfl, h1⟩; have H1 := Lib.hid h1; clear h1)
  go_ret
  exact ⟨rfl, H1.out⟩
end Go.Proofs.YtakilnpfhljgfaaGreat.DK

/- The disk: keep, settle, Arm. No condition. -/
namespace Go.Proofs.YtakilnpfhljgfaaGreat.DK
set_option maxRecDepth 100000
open Go.RowKit Go.Proofs.YtakilnpfhljgfaaGreat.MI
set_option linter.unusedVariables false
set_option linter.unusedSimpArgs false

/-- A look-up, as an equation. -/
theorem look_eq {β : Type} {E : Codec β} {P : Program} {k e t : TypeId} {w : World} {b n : Nat} {f : Int → Option β} (h : MapAt E P k w b n f) (hk : P.underlying k = some (.int .i64)) (ht : P.underlying t = some (.map k e)) (z0 : β) (hz : (zeroValue e).run P w = .ok (E.enc z0) w) (i : Int) (hi : WfI i) :
    (Instr.lookup t (.map (some b)) (.int .i64 i) false).run P w = .ok (E.enc ((f i).getD z0)) w := by
  obtain ⟨D, hown, hv⟩ := h
  obtain ⟨v, ps, hrun, hR⟩ := hown.lookup (Maps.int_keyed hk) ht hz (rdC_enc E z0) (Maps.keyOf_int_mk hk hi)
  rw [hv i hi] at hR
  obtain ⟨c, rfl, hc⟩ := rdC_inv hR
  have h1 := congrArg Prod.fst hc
  rw [hrun]
  cases hf : f i with
  | none => rw [hf] at h1; simp at h1; simp [h1]
  | some c1 => rw [hf] at h1; simp at h1; simp [h1]
def KeepOut (w : World) (lb n : Nat) (L : Int → Option Wr) (w' : World) : Prop := MapAt wcode Tryz.prog TI w' lb n L ∧ Keeps (only lb) w w'
theorem keepL_hit {L : Int → Option Wr} {x : Wr} (h : ((L x.a).getD wr0).s < x.s) : keepL L x = putF L x.a x := by unfold keepL; rw [if_pos h]
theorem keepL_miss {L : Int → Option Wr} {x : Wr} (h : ¬ ((L x.a).getD wr0).s < x.s) : keepL L x = L := by unfold keepL; rw [if_neg h]
theorem keep_any (w : World) (g lb N : Nat) (L : Int → Option Wr) (x : Wr) (hc : w.cell? ⟨g, 4, none⟩ = some (.map (some lb))) (hm : MapAt wcode Tryz.prog TI w lb N L) (hx : WfI x.a) (hn : N ≤ 1000000000) :
    Calls Tryz.prog 104 #[.pointer (some ⟨g, 0, none⟩), .agg #[.int .i64 x.n, .int .i64 x.a, .int .i64 x.s, .string x.d]] w fun e w' => e = .returned (.tuple #[]) ∧ KeepOut w lb (N + 1) (keepL L x) w' := by
  have cA : ∀ o, (w.alloc o).cell? ⟨g, 4, none⟩ = some (.map (some lb)) := fun o => by rw [← hc]; exact ((Keeps.refl (fun _ => False) w).alloc o).cell (World.block_lt_of_cell? w _ hc) id
  have hmA := hm.alloc (.cells #[.int .i64 x.n, .int .i64 x.a, .int .i64 x.s, .string x.d] TW)
  have hrun := look_eq hmA underI underL wr0 (zeroW _) x.a hx
  have b0 : Blk (w.alloc (.cells #[.int .i64 x.n, .int .i64 x.a, .int .i64 x.s, .string x.d] TW)) w.heap.size TW _ := Blk.new _ _ _
  have HM := Lib.hid hmA
  have K0 := Lib.hid ((Keeps.refl (only lb) w).alloc (.cells #[.int .i64 x.n, .int .i64 x.a, .int .i64 x.s, .string x.d] TW))
  obtain ⟨n, a, s, d⟩ := x
  dsimp only at *
  obtain ⟨r, hr⟩ : ∃ r, (L a).getD wr0 = r := ⟨_, rfl⟩
  rw [hr] at hrun
  obtain ⟨W, hW⟩ : ∃ W, w.alloc (.cells #[.int .i64 n, .int .i64 a, .int .i64 s, .string d] TW) = W := ⟨_, rfl⟩
  have cW := cA (.cells #[.int .i64 n, .int .i64 a, .int .i64 s, .string d] TW)
  rw [hW] at HM K0 b0 hrun cW
  have d0 := b0.cell 0; have d1 := b0.cell 1; have d2 := b0.cell 2; have d3 := b0.cell 3
  have hd : ∀ {v : Value}, (Instr.lookup 91 (.map (some lb)) (.int .i64 a) false).run Tryz.prog W = .ok v W → (Instr.lookup 91 (.map (some lb)) (.int .i64 a) false).run Tryz.prog W.drew = .ok v W.drew := fun h => by
    have h2 := look_eq HM.out.drew underI underL wr0 (zeroW _) a hx
    have h3 := look_eq HM.out underI underL wr0 (zeroW _) a hx
    rw [h3] at h
    injection h with h
    rw [← h]; exact h2
  by_cases hlt : r.s < s
  · have hk := keepL_hit (L := L) (x := ⟨n, a, s, d⟩) (by dsimp only; rw [hr]; exact hlt)
    rw [hk]
    have b1 : decide (r.s < s) = true := by simpa using hlt
    obtain ⟨rn, ra, rs, rd⟩ := r
    dsimp only at *
    have hrun' : (Instr.lookup 91 (.map (some lb)) (.int .i64 a) false).run Tryz.prog W.drew = .ok (.agg #[.int .i64 rn, .int .i64 ra, .int .i64 rs, .string rd]) W.drew := hd hrun
    have hfd : ∀ w : World, (Instr.field 147 (.agg #[.int .i64 rn, .int .i64 ra, .int .i64 rs, .string rd]) 2).run Tryz.prog w = .ok (.int .i64 rs) w := fun _ => by kernel_rfl
    clear hk hm hmA hrun hr hd cA
    go_enter Tryz.func104, Tryz.ntmps104
    go_wp2_with fail
    clear hW
    go_still (by kernel_rfl)
    have HM2 := Lib.hid HM.out.drew
    have K2 := Lib.hid K0.out.drew
    have cW2 : W.drew.cell? ⟨g, 4, none⟩ = some (.map (some lb)) := cW
    have b2 : Blk W.drew w.heap.size TW #[.int .i64 n, .int .i64 a, .int .i64 s, .string d] := b0
    clear b0 d0 d1 d2 d3
    obtain ⟨W2, hW2⟩ : ∃ W2, W2 = W.drew := ⟨_, rfl⟩
    have hW3 : ({ heap := W.heap, tape := W.tape, drawn := W.drawn + 1, os := W.os, output := W.output } : World) = W2 := hW2.symm
    rw [hW3]
    rw [← hW2] at HM2 K2 cW2 b2
    clear hW3 hW2 hrun'
    have d0 := b2.cell 0; have d1 := b2.cell 1; have d2 := b2.cell 2; have d3 := b2.cell 3
    go_wp2_with fail
    go_still_tail 7, (by kernel_rfl)
    go_wp2_with (at_mapUpdate; refine wp_store _ rfl _ _ _ 91 rfl TI TW underI underL lb N L rfl (show MapAt wcode Tryz.prog TI _ lb N L from HM2.out.drew) (by unfold maxLen; omega) a ⟨n, a, s, d⟩ rfl hx rfl ?_; intro w2 hm2 hg2; have R2 := Lib.hid (show KeepOut w lb (N + 1) (putF L a ⟨n, a, s, d⟩) w2 from ⟨hm2, (K2.out.drew).grown hg2 (fun k e _ => by injection e with e; exact e.symm)⟩); clear hm2 hg2)
    refine bodyPost_end (results_none rfl _ _ _) rfl ?_
    exact ⟨rfl, R2.out⟩
  · have hk := keepL_miss (L := L) (x := ⟨n, a, s, d⟩) (by dsimp only; rw [hr]; exact hlt)
    rw [hk]
    have b1 : decide (r.s < s) = false := by simpa using hlt
    obtain ⟨rn, ra, rs, rd⟩ := r
    dsimp only at *
    have hrun' : (Instr.lookup 91 (.map (some lb)) (.int .i64 a) false).run Tryz.prog W.drew = .ok (.agg #[.int .i64 rn, .int .i64 ra, .int .i64 rs, .string rd]) W.drew := hd hrun
    have hfd : ∀ w : World, (Instr.field 147 (.agg #[.int .i64 rn, .int .i64 ra, .int .i64 rs, .string rd]) 2).run Tryz.prog w = .ok (.int .i64 rs) w := fun _ => by kernel_rfl
    clear hk hm hmA hrun hr hd cA
    go_enter Tryz.func104, Tryz.ntmps104
    go_wp2_with fail
    clear hW
    go_still (by kernel_rfl)
    go_wp2_with fail
    refine bodyPost_end (results_none rfl _ _ _) rfl ?_
    exact ⟨rfl, HM.out.drew.mono (Nat.le_succ _), K0.out.drew⟩

theorem lies4 {w : World} {b off n : Nat} {ws : List Wr} (h : Lies w 4 (some ⟨b, off, none⟩) n (ws.flatMap wval)) {k : Nat} {x : Wr} (hk : ws[k]? = some x) (hn : ws.length = n) :
    w.cell? ⟨b, off + k * 4, none⟩ = some (.int .i64 x.n) ∧ w.cell? ⟨b, off + k * 4 + 1, none⟩ = some (.int .i64 x.a) ∧ w.cell? ⟨b, off + k * 4 + 2, none⟩ = some (.int .i64 x.s) ∧ w.cell? ⟨b, off + k * 4 + 3, none⟩ = some (.string x.d) := by
  have hlt : k < ws.length := (List.getElem?_eq_some_iff.1 hk).1
  obtain ⟨ad, e, hc⟩ := h.2 (by omega)
  cases e
  have hat : ∀ j, j < 4 → (ws.flatMap wval)[k * 4 + j]? = (wval x)[j]? := by
    intro j hj
    clear hc h hn
    induction ws generalizing k with
    | nil => simp at hlt
    | cons y ys ih =>
      cases k with
      | zero => simp at hk; subst hk; simp only [List.flatMap_cons]; rw [List.getElem?_append_left (by simp [wval]; omega)]; simp
      | succ k => simp only [List.flatMap_cons]; rw [List.getElem?_append_right (by simp [wval]; omega)]; rw [show (k + 1) * 4 + j - (wval y).length = k * 4 + j by simp [wval]; omega]; exact ih (by simpa using hk) (by simpa using hlt)
  have hget : ∀ j v, j < 4 → (wval x)[j]? = some v → w.cell? ⟨b, off + k * 4 + j, none⟩ = some v := by
    intro j v hj hv
    have := hc (k * 4 + j) v ((hat j hj).trans hv)
    rw [← this]
    congr 1
    unfold Addr.add
    split
    · rename_i h0; simp at h0; simp [h0]
    · simp; omega
  exact ⟨by simpa using hget 0 _ (by omega) rfl, hget 1 _ (by omega) rfl, hget 2 _ (by omega) rfl, hget 3 _ (by omega) rfl⟩
def notN (n : Int) : Wr → Bool := fun x => !decide (x.n = n)
theorem setL_succ_hit {L : Int → Option Wr} {ws : List Wr} {n : Int} {k : Nat} {x : Wr} (hx : ws[k]? = some x) (h : x.n = n) : setL L ws n (k + 1) = keepL (setL L ws n k) x := by
  have e : ws.getD k wr0 = x := by rw [List.getD_eq_getElem?_getD, hx]; rfl
  show (if (ws.getD k wr0).n = n then _ else _) = _
  rw [e, if_pos h]
theorem setL_succ_miss {L : Int → Option Wr} {ws : List Wr} {n : Int} {k : Nat} {x : Wr} (hx : ws[k]? = some x) (h : ¬ x.n = n) : setL L ws n (k + 1) = setL L ws n k := by
  have e : ws.getD k wr0 = x := by rw [List.getD_eq_getElem?_getD, hx]; rfl
  show (if (ws.getD k wr0).n = n then _ else _) = _
  rw [e, if_neg h]
theorem wfA {a : Int} (h : 0 ≤ a ∧ a < 20000) : WfI a := WalkArith.wf_i64 (by omega)
end Go.Proofs.YtakilnpfhljgfaaGreat.DK

/- The disk: settle. No condition. -/
namespace Go.Proofs.YtakilnpfhljgfaaGreat.DK
set_option maxRecDepth 100000
open Go.RowKit Go.Proofs.YtakilnpfhljgfaaGreat.MI
set_option linter.unusedVariables false
set_option linter.unusedSimpArgs false

/-- What settle's rounds have: of the first k that waited. -/
structure SetRel (w : World) (lb n0 : Nat) (L : Int → Option Wr) (ws : List Wr) (n : Int) (k m : Nat) (a : Option Addr) (c : Nat) (wr : World) : Prop where
  len : m = ((ws.take k).filter (notN n)).length
  own : wr.ownsRow w.heap.size TW 4 (.slice a m c) m (((ws.take k).filter (notN n)).flatMap wval)
  map : ∃ q, q + m = n0 + k ∧ MapAt wcode Tryz.prog TI wr lb q (setL L ws n k)
  kp : Keeps (only lb) w wr
section
variable {w wr w2 : World} {lb n0 m : Nat} {L : Int → Option Wr} {ws : List Wr} {n : Int} {k : Nat} {a : Option Addr} {c : Nat} {x : Wr}
theorem SetRel.hit {q : Nat} (h : SetRel w lb n0 L ws n k m a c wr) (hx : ws[k]? = some x) (hn : x.n = n) (hm : q + m = n0 + k) {wb : World} (hb : Below wr.heap.size wr wb) (hk : KeepOut wb lb (q + 1) (keepL (setL L ws n k) x) w2) : SetRel w lb n0 L ws n (k + 1) m a c w2 := by
  have hf : (ws.take (k + 1)).filter (notN n) = (ws.take k).filter (notN n) := by
    rw [List.take_add_one, hx]; simp [notN, hn]
  have hlb : ∀ j, (Value.slice a m c).ownBlock = some j → ¬ only lb j := by
    intro j hj e
    obtain ⟨m', _, hm'⟩ := h.map
    obtain ⟨es, cl, ho⟩ := hm'.obj
    have := own_map_ne h.own ho
    unfold only at e
    subst e
    exact this hj
  refine ⟨by rw [hf]; exact h.len, ?_, ⟨q + 1, by omega, by rw [setL_succ_hit hx hn]; exact hk.1⟩, (h.kp.trans (Keeps.of_below hb (fun _ => False)) (fun _ _ h => h.elim)).trans hk.2 (fun _ _ h => h)⟩
  rw [hf]
  exact own_keeps (own_keeps h.own (Keeps.of_below hb (fun _ => False)) (fun _ _ h => h)) hk.2 hlb
theorem SetRel.miss {a2 : Option Addr} {c2 : Nat} (h : SetRel w lb n0 L ws n k m a c wr) (hx : ws[k]? = some x) (hn : ¬ x.n = n)
    {wb : World} (hb : Below wr.heap.size wr wb) (ho : w2.ownsRow w.heap.size TW 4 (.slice a2 (m + 1) c2) (m + 1) (((ws.take k).filter (notN n)).flatMap wval ++ wval x)) (hg : wb.grownBy w2 (Value.slice a 0 0).ownBlock) :
    SetRel w lb n0 L ws n (k + 1) (m + 1) a2 c2 w2 := by
  have hf : (ws.take (k + 1)).filter (notN n) = (ws.take k).filter (notN n) ++ [x] := by
    rw [List.take_add_one, hx]; simp [notN, hn]
  have hk : Keeps (fun j => (Value.slice a 0 0).ownBlock = some j) wr w2 := (Keeps.of_below hb (fun j => (Value.slice a 0 0).ownBlock = some j)).grown hg (fun _ e _ => e)
  obtain ⟨q, h1, h2⟩ := h.map
  obtain ⟨es, cl, hob⟩ := h2.obj
  have hne := own_map_ne h.own hob
  rw [own_blk] at hne
  refine ⟨by rw [hf]; simp [h.len], by rw [hf]; simpa using ho, ⟨q, by omega, by rw [setL_succ_miss hx hn]; exact h2.keeps hk hne⟩, h.kp.trans hk (fun j hj e => ?_)⟩
  have := (h.own.lt j (by rw [own_blk]; exact e)).1
  omega
end
theorem lies_one (w : World) (x : Wr) : Lies (w.alloc (.cells #[.int .i64 x.n, .int .i64 x.a, .int .i64 x.s, .string x.d] TW)) 4 (some ⟨w.heap.size, 0, none⟩) 1 (wval x) := by
  have := Lies.of_blk (Blk.new w TW #[.int .i64 x.n, .int .i64 x.a, .int .i64 x.s, .string x.d])
  exact ⟨rfl, fun _ => this.2 (by simp)⟩
theorem wval_one (x : Wr) : ∀ u ∈ wval x, u.oneCell' = true := by intro u hu; simp [wval] at hu; rcases hu with rfl | rfl | rfl | rfl <;> rfl
abbrev boxW (x : Wr) : Obj := .cells #[.int .i64 x.n, .int .i64 x.a, .int .i64 x.s, .string x.d] TW

section
variable {w w' : World} {B g N : Nat} {p : Pl} {D : Dk}
/-- The row of what waits is laid into the disk's block. -/
theorem settle_end {wr : World} {n0 m : Nat} {n : Int} {a : Option Addr} {c : Nat} (h : DiskAt w B g p N D) (hr : SetRel w p.lb n0 D.lasts D.waits n D.waits.length m a c wr) (hn0 : n0 + D.waits.length ≤ N) :
    wr.frozen? ⟨g, 5, none⟩ = false ∧ wr.cell? ⟨g, 5, none⟩ = some (.slice p.wa D.waits.length p.wc) ∧ DiskOut w B g p N (settleK D n) (wr.setCell ⟨g, 5, none⟩ (.slice a m c)) := by
  have hb := h.blk.keeps hr.kp (fun e => h.neGL e.symm)
  have hsz := hr.kp.size
  have hg := h.blk.lt
  have hm : (settleK D n).waits.length = m := by
    have := hr.len
    rw [List.take_length] at this
    exact this.symm
  have hnew : ∀ k, (Value.slice a m c).ownBlock = some k → w.heap.size ≤ k := fun k hk => (hr.own.lt k hk).1
  have hK : Keeps (fp g p) w (wr.setCell ⟨g, 5, none⟩ (.slice a m c)) := (hr.kp.mono (S' := fp g p) (fun k _ e => .inr (.inr (.inl e)))).setCell (p := ⟨g, 5, none⟩) (fun _ => .inl rfl) _
  have hK2 : Keeps (fun k => k = g ∨ k = p.lb) w (wr.setCell ⟨g, 5, none⟩ (.slice a m c)) := (hr.kp.mono (S' := fun k => k = g ∨ k = p.lb) (fun k _ e => .inr e)).setCell (p := ⟨g, 5, none⟩) (fun _ => .inl rfl) _
  have hb0 := h.base
  refine ⟨hb.frozen 5, hb.cell 5, { p with wa := a, wc := c }, ?_, hK, fun k hk => ?_, fun k hk => .inl hk⟩
  · obtain ⟨nn, hn1, hn2⟩ := h.now
    obtain ⟨q, hq, hmq⟩ := hr.map
    refine ⟨?_, ⟨nn, hn1, hn2.keeps hK2 (fun e => e.elim h.neGN h.ne)⟩, ⟨q, by rw [hm]; omega, ?_⟩, ?_, h.stays.keeps (by decide) hK2 (fun ad e hs => hs.elim (fun e' => h.far _ ⟨ad, e, rfl⟩ (.inl e')) (fun e' => h.far _ ⟨ad, e, rfl⟩ (.inr (.inr (.inl e'))))), h.sn, fun k hk1 hk2 => ?_, fun k hk => ⟨(h.spl k hk).1, Nat.lt_of_lt_of_le (h.spl k hk).2 hK.size⟩, h.geg, h.gen, h.gel, h.ne, h.seq, h.sane.settle n⟩
    · rw [hm]; exact hb.set_ 5 _
    · exact hmq.setCell h.neGL _
    · rw [hm]
      have ho := hr.own
      rw [List.take_length] at ho
      refine own_base (base := w.heap.size) ?_ (fun k hk => Nat.le_trans hb0 (hnew k hk))
      exact own_keeps ho (keep1 wr g 5 _) (fun k hk e => by have := hnew k hk; unfold only at e; omega)
    · rcases hk2 with e | e | e | e
      · exact h.far k hk1 (.inl e)
      · exact h.far k hk1 (.inr (.inl e))
      · exact h.far k hk1 (.inr (.inr (.inl e)))
      · have h1 := hnew k (by rw [own_blk]; exact e)
        have h2 := (h.spl k hk1).2
        omega
  · rcases hk with e | e | e | e
    · exact .inl (.inl e)
    · exact .inl (.inr (.inl e))
    · exact .inl (.inr (.inr (.inl e)))
    · exact .inr (hnew k (by rw [own_blk]; exact e))
set_option maxHeartbeats 4000000 in
theorem settle_any (h : DiskAt w B g p N D) (n : Int) (hN : N ≤ 1000000000) : Calls Tryz.prog 82 #[.pointer (some ⟨g, 0, none⟩), .int .i64 n] w fun e w' => e = .returned (.tuple #[]) ∧ DiskOut w B g p N (settleK D n) w' := by
  obtain ⟨i0, hi, hz0, hz1, hz2⟩ := info_parts infW
  obtain ⟨n0, hn0, hm0⟩ := h.lasts
  have c5 : w.cell? ⟨g, 5, none⟩ = some (.slice p.wa D.waits.length p.wc) := h.blk.cell 5
  have hc4 : w.cell? ⟨g, 4, none⟩ = some (.map (some p.lb)) := h.blk.cell 4
  have hl := Lies.of_own h.waits
  have hA : 0 < D.waits.length → ∃ b, p.wa = some ⟨b, 0, none⟩ ∧ b ≠ p.lb ∧ b < w.heap.size := by
    intro h0
    obtain ⟨b, cap, hv, _⟩ := h.waits.form h0
    injection hv with hv
    exact ⟨b, hv, (h.neW b (by rw [hv]; rfl)).2.2, h.lt b (.inr (.inr (.inr (by rw [hv]; rfl))))⟩
  have hS : SetRel w p.lb n0 D.lasts D.waits n 0 0 none 0 w := ⟨rfl, by simpa using World.ownsRow_nil _ _ _ _, ⟨n0, by simp, hm0⟩, Keeps.refl _ _⟩
  have H := Lib.hid h
  have HS := Lib.hid hS
  have HL := Lib.hid hl
  have HW : Hid (∀ r ∈ D.waits, WfI r.a) := Lib.hid fun r hr => wfA (h.sane.waits r hr).2
  have hg : g < w.heap.size := h.blk.lt
  have hne := h.neGL
  obtain ⟨len, hlen⟩ : ∃ len, D.waits.length = len := ⟨_, rfl⟩
  rw [hlen] at c5 hA hn0
  have HLEN := Lib.hid hlen
  have hcap : p.wc ≤ maxLen := by
    rcases h.waits.2 with ⟨h0, _⟩ | ⟨g', cap', cur, h0, _, _, h1, h2, _⟩
    · injection h0 with _ _ h0; rw [h0]; unfold maxLen; omega
    · injection h0 with _ _ h0; rw [h0]; exact h2
  clear h hS hl hm0 hlen
  go_enter Tryz.func82, Tryz.ntmps82
  go_wp2
  go_loopw [4, 12] (fun t i wr => ∃ k m a c, k ≤ len ∧ i = .int .i64 (k : Int) ∧ t = .slice a m c ∧ Hid (SetRel w p.lb n0 D.lasts D.waits n k m a c wr)) (fun _ i _ => len - (intOf i).toNat)
  case atStart => exact ⟨0, 0, none, 0, Nat.zero_le _, rfl, rfl, HS⟩
  case round =>
    obtain ⟨k, m, a, c, hk, rfl, rfl, HR⟩ := hrel
    by_cases hlt : k < len
    · obtain ⟨b, hb, hbl, hbw⟩ := hA (by omega)
      obtain ⟨x, hx⟩ : ∃ x, D.waits[k]? = some x := ⟨_, List.getElem?_eq_getElem (by rw [HLEN.out]; exact hlt)⟩
      have hl := HL.out
      rw [hb] at hl ⊢
      have hl2 : Lies wr 4 (some ⟨b, 0, none⟩) D.waits.length (D.waits.flatMap wval) := hl.keeps (by decide) HR.out.kp (fun ad e => by cases e; exact hbl)
      obtain ⟨x0, x1, x2, x3⟩ := lies4 hl2 hx rfl
      simp only [Nat.zero_add] at x0 x1 x2 x3
      have hcr : wr.cell? ⟨g, 4, none⟩ = some (.map (some p.lb)) := (HR.out.kp.cell (p := ⟨g, 4, none⟩) hg (fun e => hne e.symm)).trans hc4
      have hwx := HW.out x (List.mem_of_getElem? hx)
      have HX := Lib.hid hx
      obtain ⟨q, hq, hmq⟩ := HR.out.map
      have hm1 : m ≤ k := by rw [HR.out.len]; exact Nat.le_trans (List.length_filter_le _ _) (by rw [List.length_take]; omega)
      clear hx hl hl2
      by_cases hxn : x.n = n
      · have b1 : (x.n == n) = true := by simp [hxn]
        have hcA : (wr.alloc (boxW x)).cell? ⟨g, 4, none⟩ = some (.map (some p.lb)) := by rw [← hcr]; exact ((Keeps.refl (fun _ => False) wr).alloc _).cell (World.block_lt_of_cell? wr _ hcr) id
        have kk := keep_any (wr.alloc (boxW x)) g p.lb q _ x hcA (hmq.alloc _) hwx (by omega)
        have HXN := Lib.hid hxn
        clear hmq hxn
        go_wp2_with (go_at_call 104; (with_reducible refine kk.mono ?_); rintro e w2 ⟨rfl, ho⟩; have R2 := Lib.hid (HR.out.hit HX.out HXN.out hq ((Below.refl _ wr).alloc (Nat.le_refl _) _) ho); clear ho kk)
        go_roundw
        case rel => exact ⟨k + 1, m, a, c, by omega, by go_num, rfl, R2⟩
        case measure => simp [intOf]; omega
      · have b1 : (x.n == n) = false := by simp [hxn]
        have hs := HR.out.kp.size
        clear hmq
        have O2 := Lib.hid (own_keeps (w' := (wr.alloc (boxW x)).alloc (boxW x)) HR.out.own (((Keeps.refl (fun _ => False) wr).alloc _).alloc _) (fun _ _ h => h))
        have hL := lies_one (wr.alloc (boxW x)) x
        rw [show (wr.alloc (boxW x)).heap.size = wr.heap.size + 1 by simp] at hL
        have HL1 := Lib.hid hL
        have HXN := Lib.hid hxn
        clear hL hxn
        go_wp2_with (at_builtin; refine wpList_append_lie _ rfl _ _ 92 rfl w.heap.size 147 i0 _ 4 40 Tryz.underlying92 hi hz0 hz1 hz2 rfl (by decide) a m c _ rfl O2.out (some ⟨wr.heap.size + 1, 0, none⟩) 1 1 (wval x) rfl HL1.out (wval_one x) (by unfold maxLen; omega) (by omega) (by simp; omega) ?_; intro a2 c2 w2 ho2 hg2 hat2; have R2 := Lib.hid (HR.out.miss HX.out HXN.out (((Below.refl _ wr).alloc (Nat.le_refl _) _).alloc (by simp) _) ho2 hg2); clear ho2 hg2 hat2)
        go_roundw
        case rel => exact ⟨k + 1, m + 1, a2, c2, by omega, by go_num, rfl, R2⟩
        case measure => simp [intOf]; omega
    · obtain rfl : k = len := by omega
      rw [← HLEN.out] at HR hn0
      obtain ⟨f5, d5, ho⟩ := settle_end H.out HR.out hn0
      have HO := Lib.hid ho
      clear ho HR HL HS
      go_wp2
      refine bodyPost_end (results_none rfl _ _ _) rfl ?_
      exact ⟨rfl, HO.out⟩
end
end Go.Proofs.YtakilnpfhljgfaaGreat.DK

/- The disk: Arm. No condition. -/
namespace Go.Proofs.YtakilnpfhljgfaaGreat.DK
set_option maxRecDepth 100000
open Go.RowKit Go.Proofs.YtakilnpfhljgfaaGreat.MI
set_option linter.unusedVariables false
set_option linter.unusedSimpArgs false

theorem own_caps {w : World} {B : Nat} {e : TypeId} {size n c : Nat} {a : Option Addr} {xs : List Value} (h : w.ownsRow B e size (.slice a n c) n xs) : n ≤ c ∧ c ≤ maxLen ∧ (a = none → n = 0 ∧ c = 0) ∧ (∀ ad, a = some ad → ∃ b, ad = ⟨b, 0, none⟩) := by
  rcases h.2 with ⟨h0, h1⟩ | ⟨g', cap', cur, h0, _, _, h1, h2, _⟩
  · injection h0 with e1 e2 e3
    exact ⟨by omega, by rw [e3]; unfold maxLen; omega, fun _ => ⟨h1, e3⟩, fun ad e => by rw [e1] at e; cases e⟩
  · injection h0 with e1 e2 e3
    exact ⟨by omega, by omega, fun hn => (by rw [e1] at hn; cases hn), fun ad e => ⟨g', by rw [e1] at e; injection e with e; exact e.symm⟩⟩
section
variable {w w' : World} {B g N : Nat} {p : Pl} {D : Dk}
theorem arm_end {w1 : World} {n : Int} {keep : List Int} {A a : Option Addr} {m c : Nat} (h : DiskAt w B g p N D) (hnl : n ≤ 9223372036854775807) (ho : w1.ownsRow w.heap.size TI 1 (.slice a m c) m (keep.map (Value.int .i64))) (hb : Below w.heap.size w w1) :
    w1.frozen? ⟨g, 41, none⟩ = false ∧ w1.frozen? ⟨g, 42, none⟩ = false ∧ w1.frozen? ⟨g, 43, none⟩ = false ∧ w1.cell? ⟨g, 41, none⟩ = some (.bool D.armed) ∧ w1.cell? ⟨g, 42, none⟩ = some (.int .i64 D.left) ∧ w1.cell? ⟨g, 43, none⟩ = some (.slice p.sa p.sn p.sc) ∧
      DiskOut w B g p N (armK D n keep) (((w1.setCell ⟨g, 41, none⟩ (.bool (decide (0 ≤ n)))).setCell ⟨g, 42, none⟩ (.int .i64 n)).setCell ⟨g, 43, none⟩ (.slice a m c)) := by
  have h1 := h.old hb
  have hnew : ∀ k, (Value.slice a m c).ownBlock = some k → w.heap.size ≤ k := fun k hk => (ho.lt k hk).1
  have hg := h.blk.lt
  have hK0 : Keeps (only g) w1 (((w1.setCell ⟨g, 41, none⟩ (.bool (decide (0 ≤ n)))).setCell ⟨g, 42, none⟩ (.int .i64 n)).setCell ⟨g, 43, none⟩ (.slice a m c)) := ((keep1 w1 g 41 _).cell_ 42 _).cell_ 43 _
  have hK : Keeps (fp g p) w (((w1.setCell ⟨g, 41, none⟩ (.bool (decide (0 ≤ n)))).setCell ⟨g, 42, none⟩ (.int .i64 n)).setCell ⟨g, 43, none⟩ (.slice a m c)) := (Keeps.of_below hb (fp g p)).trans hK0 (fun k _ e => .inl e)
  have hown := own_keeps ho hK0 (fun k hk e => by have := hnew k hk; unfold only at e; omega)
  have hb0 := h.base
  refine ⟨h1.blk.frozen 41, h1.blk.frozen 42, h1.blk.frozen 43, h1.blk.cell 41, h1.blk.cell 42, h1.blk.cell 43, { p with sa := a, sn := m, sc := c }, ?_, hK, fun k hk => .inl hk, fun k hk => ?_⟩
  · obtain ⟨nn, hn1, hn2⟩ := h1.now
    obtain ⟨q, hq, hmq⟩ := h1.lasts
    refine ⟨?_, ⟨nn, hn1, hn2.keeps hK0 h1.neGN⟩, ⟨q, hq, hmq.keeps hK0 h1.neGL⟩, own_keeps h1.waits hK0 (fun k hk => (h1.neW k (by rw [own_blk] at hk; exact hk)).1), Lies.of_own hown, own_caps ho, fun k hk1 hk2 => ?_, fun k hk => ?_, h.geg, h.gen, h.gel, h.ne, h.seq, ⟨h.sane.room, h.sane.now, h.sane.lasts, h.sane.waits, hnl⟩⟩
    · exact ((h1.blk.set_ 41 _).set_ 42 _).set_ 43 _
    · obtain ⟨ad, e, rfl⟩ := hk1
      have e' : a = some ad := e
      have h2 := hnew ad.block (by rw [e']; rfl)
      have h3 := h.lt _ hk2
      omega
    · obtain ⟨ad, e, rfl⟩ := hk
      have e' : a = some ad := e
      have h2 := hnew ad.block (by rw [e']; rfl)
      exact ⟨trivial, (hown.lt _ (by rw [e']; rfl)).2⟩
  · obtain ⟨ad, e, rfl⟩ := hk
    have e' : a = some ad := e
    exact .inr (hnew ad.block (by rw [e']; rfl))
theorem arm_any (h : DiskAt w B g p N D) (n : Int) (hnl : n ≤ 9223372036854775807) (A : Option Addr) (m c : Nat) (keep : List Int) (hl : Lies w 1 A m (keep.map (Value.int .i64))) (hm : m ≤ 1000000000000) (hn : A = none → m = 0 ∧ c = 0) :
    Calls Tryz.prog 113 #[.pointer (some ⟨g, 0, none⟩), .int .i64 n, .slice A m c] w fun e w' => e = .returned (.tuple #[]) ∧ DiskOut w B g p N (armK D n keep) w' := by
  have kc := clone_int w A m c _ hl (by intro u hu; obtain ⟨x, _, rfl⟩ := List.mem_map.1 hu; rfl) hm hn
  have fin := fun (a : Option Addr) (c' : Nat) (w1 : World) (ho : w1.ownsRow w.heap.size TI 1 (.slice a m c') m (keep.map (Value.int .i64))) (hb : Below w.heap.size w w1) => arm_end (n := n) (A := a) h hnl ho hb
  have F := Lib.hid fin
  clear h hl fin
  go_enter Tryz.func113, Tryz.ntmps113
  go_wp2_with (go_at_call 122; refine kc.mono ?_; rintro e w1 ⟨a, c', rfl, ho, hb, _⟩; obtain ⟨f1, f2, f3, d1, d2, d3, hD⟩ := F.out a c' w1 ho hb; have HD := Lib.hid hD; clear ho hb hD F kc)
  refine bodyPost_end (results_none rfl _ _ _) rfl ?_
  exact ⟨rfl, HD.out⟩
end
end Go.Proofs.YtakilnpfhljgfaaGreat.DK

/- The disk: Cut. No condition. -/
namespace Go.Proofs.YtakilnpfhljgfaaGreat.DK
set_option maxRecDepth 100000
open Go.RowKit Go.Proofs.YtakilnpfhljgfaaGreat.MI
set_option linter.unusedVariables false
set_option linter.unusedSimpArgs false

structure CutRel (w : World) (lb n0 : Nat) (L : Int → Option Wr) (ws : List Wr) (keep : List Int) (k : Nat) (wr : World) : Prop where
  map : ∃ q, q ≤ n0 + k ∧ MapAt wcode Tryz.prog TI wr lb q (cutL L ws keep k)
  kp : Keeps (only lb) w wr
theorem cutL_hit {L : Int → Option Wr} {ws : List Wr} {keep : List Int} {k : Nat} {x : Wr} (hx : ws[k]? = some x) (h : staysB keep k = true) : cutL L ws keep (k + 1) = keepL (cutL L ws keep k) x := by
  have e : ws.getD k wr0 = x := by rw [List.getD_eq_getElem?_getD, hx]; rfl
  show (if staysB keep k = true then keepL (cutL L ws keep k) (ws.getD k wr0) else _) = _
  rw [e, if_pos h]
theorem cutL_miss {L : Int → Option Wr} {ws : List Wr} {keep : List Int} {k : Nat} (h : staysB keep k = false) : cutL L ws keep (k + 1) = cutL L ws keep k := by
  show (if staysB keep k = true then _ else _) = _
  rw [h]; rfl
section
variable {w wr w2 : World} {lb n0 : Nat} {L : Int → Option Wr} {ws : List Wr} {keep : List Int} {k : Nat} {x : Wr}
theorem CutRel.hit {q : Nat} (h : CutRel w lb n0 L ws keep k wr) (hx : ws[k]? = some x) (hs : staysB keep k = true) (hq : q ≤ n0 + k) {wb : World} (hb : Below wr.heap.size wr wb) (hk : KeepOut wb lb (q + 1) (keepL (cutL L ws keep k) x) w2) : CutRel w lb n0 L ws keep (k + 1) w2 :=
  ⟨⟨q + 1, by omega, by rw [cutL_hit hx hs]; exact hk.1⟩, (h.kp.trans (Keeps.of_below hb (fun _ => False)) (fun _ _ h => h.elim)).trans hk.2 (fun _ _ h => h)⟩
theorem CutRel.miss (h : CutRel w lb n0 L ws keep k wr) (hs : staysB keep k = false) (hb : Below wr.heap.size wr w2) : CutRel w lb n0 L ws keep (k + 1) w2 := by
  obtain ⟨q, h1, h2⟩ := h.map
  exact ⟨⟨q, by omega, by rw [cutL_miss hs]; exact h2.keeps (Keeps.of_below hb (fun _ => False)) id⟩, h.kp.trans (Keeps.of_below hb (fun _ => False)) (fun _ _ h => h.elim)⟩
end
/-- What the rounds of the range over what lasts have. -/
structure Cut2 (w : World) (lb nb r q : Nat) (L : Int → Option Wr) (left : Int → Bool) (cnt : Nat) (wv : World) : Prop where
  rg : RangeAt wcode Tryz.prog TI wv lb r q L left cnt
  mp : ∃ j F, j + cnt ≤ q ∧ MapAt scode Tryz.prog TI wv nb j F ∧ ∀ x, WfI x → F x = if left x = true then none else dataOf L x
  kp : Keeps (fun k => k = r ∨ k = nb) w wv
  ne : lb ≠ nb ∧ r ≠ nb
theorem Cut2.step {w wv w4 w5 : World} {lb nb r q cnt cnt' j : Nat} {L : Int → Option Wr} {left : Int → Bool} {F : Int → Option ByteArray} {x : Int} {c : Wr} (h : Cut2 w lb nb r q L left cnt wv) (hx : WfI x) (hl : left x = true) (hL : L x = some c)
    (h4 : RangeAt wcode Tryz.prog TI w4 lb r q L (fun z => left z && !(z == x)) cnt') (hc : cnt' < cnt) (hg4 : wv.grownBy w4 (some r)) (o : Obj)
    (hj : j + cnt ≤ q) (hF : ∀ x, WfI x → F x = if left x = true then none else dataOf L x)
    (h5 : MapAt scode Tryz.prog TI w5 nb (j + 1) (putF F x c.d)) (hg5 : (w4.alloc o).drew.grownBy w5 (some nb)) : Cut2 w lb nb r q L (fun z => left z && !(z == x)) cnt' w5 := by
  have ha : w4.grownBy (w4.alloc o).drew (some nb) := ⟨rfl, rfl, rfl, by simp [World.drew], fun i hi _ => (Below.heap_alloc w4 o i hi)⟩
  refine ⟨(h4.kept ha (fun e => h.ne.1 (by injection e)) (fun e => h.ne.2 (by injection e))).kept hg5 (fun e => h.ne.1 (by injection e)) (fun e => h.ne.2 (by injection e)), ⟨j + 1, _, by omega, h5, fun z hz => ?_⟩,
    (((h.kp.grown hg4 (fun k e _ => .inl (by injection e with e; exact e.symm))).alloc o).drew).grown hg5 (fun k e _ => .inr (by injection e with e; exact e.symm)), h.ne⟩
  by_cases hzx : z = x
  · subst hzx
    rw [putF_same]
    simp [dataOf, hL]
  · rw [putF_other _ _ hzx, hF z hz]
    simp [hzx]
theorem Cut2.mpG {w wv w4 : World} {lb nb r q cnt : Nat} {L : Int → Option Wr} {left : Int → Bool} (h : Cut2 w lb nb r q L left cnt wv) (hg4 : wv.grownBy w4 (some r)) :
    ∃ j F, j + cnt ≤ q ∧ MapAt scode Tryz.prog TI w4 nb j F ∧ ∀ x, WfI x → F x = if left x = true then none else dataOf L x := by
  obtain ⟨j, F, h1, h2, h3⟩ := h.mp
  exact ⟨j, F, h1, h2.keeps (S := only r) ((Keeps.refl _ wv).grown hg4 (fun k e _ => by injection e with e; exact e.symm)) (fun e => h.ne.2 e.symm), h3⟩
section
variable {w w' : World} {B g N : Nat} {p : Pl} {D : Dk}
theorem DiskOut.comp {w1 : World} {p1 : Pl} {N2 : Nat} {D2 : Dk} (k : Keeps (fp g p) w w1) (h2 : Grows w (fp g p) (fp g p1)) (h3 : Grows w (sp p) (sp p1)) (ho : DiskOut w1 B g p1 N2 D2 w') : DiskOut w B g p N2 D2 w' := by
  obtain ⟨p2, e1, e2, e3, e4⟩ := ho
  exact ⟨p2, e1, k.then_ h2 e2, h2.trans k.size e3, h3.trans k.size e4⟩
/-- The world ahead of the range. -/
def midW (wr : World) (g : Nat) : World := ((wr.alloc (.map #[] 0)).setCell ⟨g, 1, none⟩ (.bool false)).setCell ⟨g, 3, none⟩ (.map (some wr.heap.size))
theorem mid_at {wr : World} {n0 : Nat} {L : Int → Option Wr} (h : DiskAt w B g p N D) (hk : Keeps (only p.lb) w wr) (hm : MapAt wcode Tryz.prog TI wr p.lb n0 L) :
    (∀ o, (wr.alloc o).frozen? ⟨g, 1, none⟩ = false ∧ (wr.alloc o).frozen? ⟨g, 3, none⟩ = false ∧ (wr.alloc o).cell? ⟨g, 1, none⟩ = some (.bool D.on) ∧ (wr.alloc o).cell? ⟨g, 3, none⟩ = some (.map (some p.nb)) ∧ (wr.alloc o).cell? ⟨g, 4, none⟩ = some (.map (some p.lb))) ∧
      MapAt wcode Tryz.prog TI (midW wr g) p.lb n0 L ∧ MapAt scode Tryz.prog TI (midW wr g) wr.heap.size 0 (fun _ => none) ∧ Keeps (fun k => k = g ∨ k = p.lb) w (midW wr g) ∧ p.lb ≠ wr.heap.size ∧
      Blk (midW wr g) g TD (((dcells D p.nb p.lb (.slice p.wa D.waits.length p.wc) (.slice p.sa p.sn p.sc)).setIfInBounds 1 (.bool false)).setIfInBounds 3 (.map (some wr.heap.size))) := by
  have hb := h.blk.keeps hk (fun e => h.neGL e.symm)
  have hbo : ∀ o, Blk (wr.alloc o) g TD _ := fun o => hb.alloc o
  have hs := hk.size
  have hlt := h.lt
  have hgl := hlt g (.inl rfl)
  have hll := hlt p.lb (.inr (.inr (.inl rfl)))
  refine ⟨fun o => ⟨(hbo o).frozen 1, (hbo o).frozen 3, (hbo o).cell 1, (hbo o).cell 3, (hbo o).cell 4⟩, ((hm.alloc _).setCell h.neGL _).setCell h.neGL _, ?_, ?_, by omega, ((hbo _).set_ 1 _).set_ 3 _⟩
  · exact ((MapAt.made wr).setCell (by show wr.heap.size ≠ g; omega) _).setCell (by show wr.heap.size ≠ g; omega) _
  · exact (((hk.mono (S' := fun k => k = g ∨ k = p.lb) (fun k _ e => .inr e)).alloc _).setCell (p := ⟨g, 1, none⟩) (fun _ => .inl rfl) _).setCell (p := ⟨g, 3, none⟩) (fun _ => .inl rfl) _
theorem cut_end {wr w3 wv : World} {keep : List Int} {q : Nat} {left : Int → Bool} {cnt : Nat} (h : DiskAt w B g p N D) (hon : D.on = true) (hoff : D.armed = false ∧ D.left = -1 ∧ D.stays = []) (hk : Keeps (only p.lb) w wr)
    (hq : q ≤ N) (hm : MapAt wcode Tryz.prog TI wr p.lb q (cutL D.lasts D.waits keep D.waits.length)) (hg3 : (midW wr g).grownBy w3 none) (hs3 : w3.heap.size = (midW wr g).heap.size + 1)
    (h2 : Cut2 w3 p.lb wr.heap.size (midW wr g).heap.size q (cutL D.lasts D.waits keep D.waits.length) left cnt wv) (hl : ∀ x, WfI x → left x = false) :
    wv.frozen? ⟨g, 5, none⟩ = false ∧ wv.cell? ⟨g, 5, none⟩ = some (.slice p.wa D.waits.length p.wc) ∧ DiskOut w B g p N (cutK D keep) (wv.setCell ⟨g, 5, none⟩ (.slice none 0 0)) := by
  obtain ⟨-, m1, m2, m3, m4, m5⟩ := mid_at h hk hm
  have hsz := hk.size
  have hms : (midW wr g).heap.size = wr.heap.size + 1 := by simp [midW, World.setCell]
  have hgl := h.lt g (.inl rfl)
  have hb3 := m5.grown hg3 (by simp)
  have hb4 := hb3.keeps h2.kp (by rintro (e | e) <;> omega)
  have hb5 := hb4.set_ 5 (.slice none 0 0)
  have hc : cutK D keep = { D with on := false, lasts := cutL D.lasts D.waits keep D.waits.length, now := dataOf (cutL D.lasts D.waits keep D.waits.length), waits := [] } := by
    unfold cutK
    rw [if_pos hon]
    rw [← hoff.1, ← hoff.2.1, ← hoff.2.2]
  -- all that has turned
  have kA : Keeps (fun k => k = g ∨ k = p.lb) w wv := (m3.grown hg3 (fun k e _ => by cases e)).trans h2.kp (fun i hi e => by rcases e with e | e <;> omega)
  have kB : Keeps (fun k => k = g ∨ k = p.lb) w (wv.setCell ⟨g, 5, none⟩ (.slice none 0 0)) := kA.setCell (p := ⟨g, 5, none⟩) (fun _ => .inl rfl) _
  have hb0 := h.base
  refine ⟨hb4.frozen 5, hb4.cell 5, { p with nb := wr.heap.size, wa := none, wc := 0 }, ?_, kB.mono (fun k _ e => by rcases e with e | e; exact .inl e; exact .inr (.inr (.inl e))), fun k hk => ?_, fun k hk => .inl hk⟩
  · rw [hc]
    obtain ⟨j, F, f1, f2, f3⟩ := h2.mp
    refine ⟨hb5, ⟨j, by omega, ?_⟩, ⟨q, by simpa using hq, h2.rg.owns.setCell h.neGL _⟩, World.ownsRow_nil _ _ _ _, h.stays.keeps (by decide) kB (fun ad e hs => hs.elim (fun e' => h.far _ ⟨ad, e, rfl⟩ (.inl e')) (fun e' => h.far _ ⟨ad, e, rfl⟩ (.inr (.inr (.inl e'))))), h.sn, fun k hk1 hk2 => ?_, fun k hk => ⟨(h.spl k hk).1, Nat.lt_of_lt_of_le (h.spl k hk).2 kB.size⟩, h.geg, ?_, h.gel, fun e => m4 e.symm, h.seq, ?_⟩
    · exact (f2.ext (fun x hx => by rw [f3 x hx, hl x hx]; rfl)).setCell (by show wr.heap.size ≠ g; omega) _
    · rcases hk2 with e | e | e | e
      · exact h.far k hk1 (.inl e)
      · have h1 := (h.spl k hk1).2
        have e' : k = wr.heap.size := e
        omega
      · exact h.far k hk1 (.inr (.inr (.inl e)))
      · simp [Value.ownBlock] at e
    · show B ≤ wr.heap.size; omega
    · have := h.sane.cut keep
      rw [hc] at this
      exact this
  · rcases hk with e | e | e | e
    · exact .inl (.inl e)
    · have e' : k = wr.heap.size := e
      exact .inr (by omega)
    · exact .inl (.inr (.inr (.inl e)))
    · simp [Value.ownBlock] at e
end
end Go.Proofs.YtakilnpfhljgfaaGreat.DK

/- The disk: Cut, walked. No condition. -/
namespace Go.Proofs.YtakilnpfhljgfaaGreat.DK
set_option maxRecDepth 100000
open Go.RowKit Go.Proofs.YtakilnpfhljgfaaGreat.MI
set_option linter.unusedVariables false
set_option linter.unusedSimpArgs false

theorem lies1 {w : World} {b off n : Nat} {zs : List Int} (h : Lies w 1 (some ⟨b, off, none⟩) n (zs.map (Value.int .i64))) {k : Nat} (hk : k < n) : w.cell? ⟨b, off + k, none⟩ = some (.int .i64 (zs.getD k 0)) := by
  obtain ⟨ad, e, hc⟩ := h.2 (by omega)
  cases e
  have hl : k < zs.length := by have := h.1; simp at this; omega
  have := hc k (.int .i64 (zs.getD k 0)) (by rw [List.getElem?_map, List.getElem?_eq_getElem hl, List.getD_eq_getElem?_getD, List.getElem?_eq_getElem hl]; rfl)
  rw [← this]
  congr 1
  unfold Addr.add
  split <;> simp_all
section
variable {w w' : World} {B g N : Nat} {p : Pl} {D : Dk}
theorem cut_off (h : DiskAt w B g p N D) (hoff : D.on = false) (A : Option Addr) (m c : Nat) (keep : List Int) :
    Calls Tryz.prog 93 #[.pointer (some ⟨g, 0, none⟩), .slice A m c] w fun e w' => e = .returned (.int .i64 0) ∧ DiskOut w B g p N (cutK D keep) w' := by
  have ka := arm_any h (-1) (by decide) none 0 0 [] Lies.nil (by omega) (fun _ => ⟨rfl, rfl⟩)
  have hc : cutK D keep = armK D (-1) [] := by unfold cutK; rw [hoff]; rfl
  rw [hc]
  clear hc h
  go_enter Tryz.func93, Tryz.ntmps93
  go_wp2_with (first
    | (go_at_call 113; refine ka.mono ?_; rintro e w1 ⟨rfl, ho⟩; have HO := Lib.hid ho; have ko : Calls Tryz.prog 85 #[.pointer (some ⟨g, 0, none⟩)] w1 fun e w' => e = .returned (.bool false) ∧ w' = w1 := (by obtain ⟨p1, h1, _⟩ := HO.out; have := on_any h1; rwa [show (armK D (-1) []).on = false from hoff] at this); clear ho ka)
    | (go_at_call 85; refine ko.mono ?_; rintro e w2 ⟨rfl, rfl⟩))
  go_ret
  exact ⟨rfl, HO.out⟩

/-- What stands behind Arm, for the walk. -/
structure Ahead (w : World) (B g : Nat) (p : Pl) (N : Nat) (D : Dk) (A : Option Addr) (m : Nat) (keep : List Int) (w1 : World) (p1 : Pl) : Prop where
  at_ : DiskAt w1 B g p1 N (armK D (-1) [])
  k : Keeps (fp g p) w w1
  f : Grows w (fp g p) (fp g p1)
  s : Grows w (sp p) (sp p1)
  lies : Lies w1 1 A m (keep.map (Value.int .i64))
  far : ∀ ad, 0 < m → A = some ad → ad.block ≠ p1.lb
theorem ahead (h : DiskAt w B g p N D) {A : Option Addr} {m : Nat} {keep : List Int} (hl : Lies w 1 A m (keep.map (Value.int .i64))) (hfar : 0 < m → ∀ ad, A = some ad → ¬ fp g p ad.block) {w1 : World} (ho : DiskOut w B g p N (armK D (-1) []) w1) : ∃ p1, Ahead w B g p N D A m keep w1 p1 := by
  obtain ⟨p1, h1, k1, g1, s1⟩ := ho
  refine ⟨p1, h1, k1, g1, s1, (Nat.eq_zero_or_pos m).elim (fun e => ⟨hl.1, fun h => absurd h (by omega)⟩) (fun hm => hl.keeps (by decide) k1 (hfar hm)), fun ad hm e hb => ?_⟩
  have h2 := hl.lt (by decide) hm ad e
  rcases g1 p1.lb (.inr (.inr (.inl rfl))) with h3 | h3
  · exact hfar hm ad e (hb ▸ h3)
  · omega
theorem Ahead.facts {w1 : World} {p1 : Pl} {A : Option Addr} {m : Nat} {keep : List Int} (h : Ahead w B g p N D A m keep w1 p1) (hon : D.on = true) :
    w1.cell? ⟨g, 5, none⟩ = some (.slice p1.wa D.waits.length p1.wc) ∧ D.waits.length ≤ N ∧ (0 < D.waits.length → ∃ b, p1.wa = some ⟨b, 0, none⟩ ∧ b ≠ p1.lb) ∧ p1.lb ≠ g ∧ g < w1.heap.size ∧ p1.wc ≤ maxLen ∧ D.waits.length ≤ p1.wc ∧
      Hid (Calls Tryz.prog 85 #[.pointer (some ⟨g, 0, none⟩)] w1 fun e w' => e = .returned (.bool true) ∧ w1 = w') ∧
      ∃ n0, n0 + D.waits.length ≤ N ∧ Hid (CutRel w1 p1.lb n0 D.lasts D.waits keep 0 w1) := by
  obtain ⟨n0, hn0, hm0⟩ := h.at_.lasts
  have hc := own_caps h.at_.waits
  refine ⟨h.at_.blk.cell 5, ?_, fun h0 => ?_, h.at_.neGL, h.at_.blk.lt, hc.2.1, hc.1, Lib.hid ?_, n0, hn0, Lib.hid ⟨⟨n0, by omega, hm0⟩, Keeps.refl _ _⟩⟩
  · have : n0 + D.waits.length ≤ N := hn0
    omega
  · obtain ⟨b, cap, hv, _⟩ := h.at_.waits.form h0
    injection hv with hv
    exact ⟨b, hv, (h.at_.neW b (by rw [hv]; rfl)).2.2⟩
  · have := on_any h.at_
    rw [show (armK D (-1) []).on = true from hon] at this
    exact this.mono fun e w' ⟨h1, h2⟩ => ⟨h1, h2.symm⟩
set_option maxHeartbeats 4000000 in
theorem cut_on (h : DiskAt w B g p N D) (hon : D.on = true) (A : Option Addr) (m c : Nat) (keep : List Int) (hl : Lies w 1 A m (keep.map (Value.int .i64))) (hA : 0 < m → ∃ b off, A = some ⟨b, off, none⟩) (hfar : 0 < m → ∀ ad, A = some ad → ¬ fp g p ad.block) (hN : N ≤ 1000000000) :
    Calls Tryz.prog 93 #[.pointer (some ⟨g, 0, none⟩), .slice A m c] w fun e w' => e = .returned (.int .i64 (D.waits.length : Int)) ∧ DiskOut w B g p N (cutK D keep) w' := by
  have ka := arm_any h (-1) (by decide) none 0 0 [] Lies.nil (by omega) (fun _ => ⟨rfl, rfl⟩)
  have hah := fun w1 ho => ahead (w1 := w1) h hl hfar ho
  have HAH := Lib.hid hah
  have HON := Lib.hid hon
  have hkl : keep.length = m := by have := hl.1; simpa using this
  have HKL := Lib.hid hkl
  have HWF : Hid (∀ r ∈ D.waits, WfI r.a) := Lib.hid fun r hr => wfA (h.sane.waits r hr).2
  obtain ⟨len, hlen⟩ : ∃ len, D.waits.length = len := ⟨_, rfl⟩
  have HLEN := Lib.hid hlen
  rw [hlen]
  clear h hl hah hon hfar hkl hlen
  go_enter Tryz.func93, Tryz.ntmps93
  go_wp2_with (first
    | (go_at_call 113; refine ka.mono ?_; rintro e w1 ⟨rfl, ho⟩; obtain ⟨p1, ha⟩ := HAH.out w1 ho; obtain ⟨c5, i1, hW, hlg, hgw, hcap, hcap2, KO, n0, hn0, HC⟩ := ha.facts HON.out; rw [HLEN.out] at c5 i1 hW hcap2 hn0; have HA := Lib.hid ha; clear ho ka ha HAH)
    | (go_at_call 85; refine KO.out.mono ?_; rintro e w2 ⟨rfl, rfl⟩))
  go_loopw [6, 21] (fun _ i wr => ∃ k, k ≤ len ∧ i = .int .i64 (k : Int) ∧ Hid (CutRel w1 p1.lb n0 D.lasts D.waits keep k wr)) (fun _ i _ => len - (intOf i).toNat)
  case atStart => exact ⟨0, Nat.zero_le _, rfl, HC⟩
  case round =>
    obtain ⟨k, hk, rfl, HR⟩ := hrel
    by_cases hlt : k < len
    · obtain ⟨b, hb, hbl⟩ := hW (by omega)
      obtain ⟨x, hx⟩ : ∃ x, D.waits[k]? = some x := ⟨_, List.getElem?_eq_getElem (by rw [HLEN.out]; exact hlt)⟩
      have hl2 := (Lies.of_own HA.out.at_.waits).keeps (S := only p1.lb) (by decide) HR.out.kp (fun ad e => by rw [hb] at e; cases e; exact hbl)
      rw [hb] at hl2 ⊢
      obtain ⟨x0, x1, x2, x3⟩ := lies4 hl2 hx rfl
      simp only [Nat.zero_add] at x0 x1 x2 x3
      have hwx := HWF.out x (List.mem_of_getElem? hx)
      have hcr : wr.cell? ⟨g, 4, none⟩ = some (.map (some p1.lb)) := (HR.out.kp.cell (p := ⟨g, 4, none⟩) hgw (fun e => hlg e.symm)).trans (HA.out.at_.blk.cell 4)
      have HX := Lib.hid hx
      obtain ⟨q, hq, hmq⟩ := HR.out.map
      clear hx hl2
      by_cases hkm : k < m
      · obtain ⟨b2, off2, hA2⟩ := hA (by omega)
        have hl3 := HA.out.lies.keeps (by decide) HR.out.kp (fun ad e => HA.out.far ad (by omega) e)
        rw [hA2] at hl3
        have y00 := lies1 hl3 hkm
        obtain ⟨z, hz⟩ : ∃ z, keep.getD k 0 = z := ⟨_, rfl⟩
        rw [hz] at y00
        have y0 : ∀ o, (wr.alloc o).cell? ⟨b2, off2 + k, none⟩ = some (.int .i64 z) := fun o => by rw [← y00]; exact ((Keeps.refl (fun _ => False) wr).alloc o).cell (World.block_lt_of_cell? wr _ y00) id
        rw [hA2]
        have b1 : decide ((k : Int) < (m : Int)) = true := by simp; omega
        have hst : staysB keep k = oddB z := by unfold staysB; rw [HKL.out, hz]; simp [hkm]
        have HST := Lib.hid hst
        clear hl3 hz hst y00
        cases hod : oddB z
        · rw [hod] at HST
          have b2 : (bits BinOp.and IntKind.i64 z 1 == 1) = false := hod
          have R2 := Lib.hid (HR.out.miss (w2 := wr.alloc (boxW x)) HST.out ((Below.refl _ wr).alloc (Nat.le_refl _) _))
          clear hmq hod
          go_wp2_with fail
          go_roundw
          case rel => exact ⟨k + 1, by omega, by go_num, R2⟩
          case measure => simp [intOf]; omega
        · rw [hod] at HST
          have b2 : (bits BinOp.and IntKind.i64 z 1 == 1) = true := hod
          have hcA : (wr.alloc (boxW x)).cell? ⟨g, 4, none⟩ = some (.map (some p1.lb)) := by rw [← hcr]; exact ((Keeps.refl (fun _ => False) wr).alloc _).cell (World.block_lt_of_cell? wr _ hcr) id
          have kk := keep_any (wr.alloc (boxW x)) g p1.lb q _ x hcA (hmq.alloc _) hwx (by omega)
          clear hmq hod
          go_wp2_with (go_at_call 104; (with_reducible refine kk.mono ?_); rintro e w2 ⟨rfl, ho⟩; have R2 := Lib.hid (HR.out.hit HX.out HST.out hq ((Below.refl _ wr).alloc (Nat.le_refl _) _) ho); clear ho kk)
          go_roundw
          case rel => exact ⟨k + 1, by omega, by go_num, R2⟩
          case measure => simp [intOf]; omega
      · have b1 : decide ((k : Int) < (m : Int)) = false := by simp; omega
        have hst : staysB keep k = false := by unfold staysB; rw [HKL.out]; simp [hkm]
        have R2 := Lib.hid (HR.out.miss (w2 := wr.alloc (boxW x)) hst ((Below.refl _ wr).alloc (Nat.le_refl _) _))
        clear hmq hst
        go_wp2_with fail
        go_roundw
        case rel => exact ⟨k + 1, by omega, by go_num, R2⟩
        case measure => simp [intOf]; omega
    · obtain rfl : k = len := by omega
      have hcr := HR.out
      rw [← HLEN.out] at hcr
      obtain ⟨q, hq, hmq⟩ := hcr.map
      have hqN : q ≤ N := by have := HLEN.out; omega
      obtain ⟨hmid, m1, m2, m3, m4, m5⟩ := mid_at HA.out.at_ hcr.kp hmq
      have f1 := fun o => (hmid o).1; have f3 := fun o => (hmid o).2.1; have d1 := fun o => (hmid o).2.2.1; have d3 := fun o => (hmid o).2.2.2.1; have d4 := fun o => (hmid o).2.2.2.2
      have HM1 := Lib.hid m1
      have HM2 := Lib.hid m2
      have HKP := Lib.hid hcr.kp
      have HMQ := Lib.hid hmq
      have HM4 := Lib.hid m4
      have HLT : Hid (p1.lb < (midW wr g).heap.size ∧ wr.heap.size < (midW wr g).heap.size) := Lib.hid ⟨m1.lt, m2.lt⟩
      have HB := Lib.hid m5
      have hgn : g ≠ wr.heap.size ∧ g ≠ (midW wr g).heap.size := by
        have h1 := hcr.kp.size
        have h2 : (midW wr g).heap.size = wr.heap.size + 1 := by simp [midW, World.setCell]
        omega
      have HGN := Lib.hid hgn
      have hmm := @run_makeMap Tryz.prog
      clear hcr m1 m2 m3 m4 m5 hmq hmid hgn
      go_wp2_with (at_range; refine wp_range _ rfl _ 91 rfl TI TW underI underL p1.lb q _ rfl (show MapAt wcode Tryz.prog TI _ p1.lb q _ from HM1.out) ?_; intro w3 cnt hcq hrg hg3 hs3)
      go_frame
      have h2 : Cut2 w3 p1.lb wr.heap.size (midW wr g).heap.size q (cutL D.lasts D.waits keep D.waits.length) (fun x => ((cutL D.lasts D.waits keep D.waits.length) x).isSome) cnt w3 :=
        ⟨hrg, ⟨0, fun _ => none, by omega, HM2.out.keeps (S := fun _ => False) ((Keeps.refl _ _).grown hg3 (fun k e _ => by cases e)) id, fun x _ => by
          unfold dataOf
          cases cutL D.lasts D.waits keep D.waits.length x <;> simp⟩, Keeps.refl _ _, HM4.out, by have := HLT.out; omega⟩
      have H2 := Lib.hid h2
      have HB3 := Lib.hid (show Blk w3 g TD _ from HB.out.grown hg3 (by simp))
      have HG3 := Lib.hid (show (midW wr g).grownBy w3 none from hg3)
      have HS3 := Lib.hid (show w3.heap.size = (midW wr g).heap.size + 1 from hs3)
      clear h2 hg3 hs3 hrg f1 f3 d1 d3 d4 hmm
      obtain ⟨r, hr⟩ : ∃ r, (midW wr g).heap.size = r := ⟨_, rfl⟩
      have hr' : (((wr.alloc (Obj.map #[] 0)).setCell ⟨g, 1, none⟩ (.bool false)).setCell ⟨g, 3, none⟩ (.map (some wr.heap.size))).heap.size = r := hr
      rw [hr'] 
      rw [hr] at H2 HLT HGN HS3
      have HW3 := Lib.hid hr
      clear hr hr'
      obtain ⟨v1, hv1⟩ : ∃ v1, v1 = wr := ⟨_, rfl⟩
      subst hv1
      go_loopw [54] (fun _ wv => ∃ left cnt, Hid (Cut2 w3 p1.lb v1.heap.size r q (cutL D.lasts D.waits keep D.waits.length) left cnt wv)) (fun _ wv => wv.rangeLeft p1.lb r)
      case atStart => exact ⟨_, _, H2⟩
      case round =>
        obtain ⟨left, cnt, HV⟩ := hrel
        go_wp2_with (at_next; refine wp_next _ rfl _ rfl TI underI p1.lb r q _ left cnt rfl HV.out.rg ?_ ?_)
        · intro hc0 hl0
          have he := cut_end (keep := keep) HA.out.at_ HON.out ⟨rfl, rfl, rfl⟩ HKP.out hqN HMQ.out HG3.out (by rw [HW3.out]; exact HS3.out) (by rw [HW3.out]; exact HV.out) hl0
          obtain ⟨f5, d5, ho⟩ := he
          have HO := Lib.hid (DiskOut.comp HA.out.k HA.out.f HA.out.s ho)
          clear ho
          rw [show (armK D (-1) []).waits.length = D.waits.length from rfl, HLEN.out] at d5
          clear HV H2 HC HR hl0
          go_wp2
          go_ret
          exact ⟨rfl, HO.out⟩
        · intro x c w4 cnt' hwx hlx hLx hrg1 hlt1 hg1 hs1 hen
          obtain ⟨j, F, hj, hmF, hF⟩ := HV.out.mpG hg1
          have hB4 : Blk w4 g TD _ := (HB3.out.keeps HV.out.kp (by have := HGN.out; rintro (e | e) <;> omega)).grown hg1 (by have := HGN.out; intro e; injection e with e; omega)
          obtain ⟨cn, ca, cs, cd⟩ := c
          have hen' : (Instr.entry (.pointer (some ⟨r, 0, none⟩))).run Tryz.prog w4 = .ok (.tuple #[.int .i64 x, .agg #[.int .i64 cn, .int .i64 ca, .int .i64 cs, .string cd]]) w4 := hen
          obtain ⟨W5, hW5⟩ : ∃ W5, w4.alloc (.cells #[.int .i64 cn, .int .i64 ca, .int .i64 cs, .string cd] 147) = W5 := ⟨_, rfl⟩
          have b5 : Blk W5 w4.heap.size TW #[.int .i64 cn, .int .i64 ca, .int .i64 cs, .string cd] := by rw [← hW5]; exact Blk.new _ _ _
          have g5 : W5.cell? ⟨g, 3, none⟩ = some (.map (some v1.heap.size)) := by rw [← hW5]; exact (hB4.alloc _).cell 3
          have M5 : MapAt scode Tryz.prog TI W5 v1.heap.size j F := by rw [← hW5]; exact hmF.alloc _
          have HM5 := Lib.hid M5
          have hst := fun (w5 : World) (h5 : MapAt scode Tryz.prog TI w5 v1.heap.size (j + 1) (putF F x cd)) (hg5 : W5.drew.grownBy w5 (some v1.heap.size)) => HV.out.step (c := ⟨cn, ca, cs, cd⟩) hwx hlx hLx hrg1 hlt1 hg1 (.cells #[.int .i64 cn, .int .i64 ca, .int .i64 cs, .string cd] 147) hj hF h5 (by rw [hW5]; exact hg5)
          have HST := Lib.hid hst
          have e1 := HV.out.rg.left_eq
          have e3 := b5.cell 3
          have e0 := b5.cell 0
          have e10 := b5.cell 1
          have e20 := b5.cell 2
          have hjq : j ≤ 1000000000 := by omega
          have HX := Lib.hid hwx
          clear hst hwx hlx hLx hrg1 hg1 hs1 hen hB4 hmF hF hj M5 b5 H2 HR HC
          go_wp2_with fail
          go_still_tail 7, (by kernel_rfl)
          go_wp2_with (at_mapUpdate; refine wp_store _ rfl _ _ _ 90 rfl TI 9 underI underN v1.heap.size j F rfl (show MapAt scode Tryz.prog TI _ v1.heap.size j F from HM5.out.drew) (by unfold maxLen; omega) x cd rfl HX.out rfl ?_; intro w5 hm5 hg5; have R5 := Lib.hid (HST.out w5 hm5 hg5); clear hm5 hg5)
          go_frame
          go_roundw
          case rel => exact ⟨_, _, R5⟩
          case measure => rw [R5.out.rg.left_eq, e1]; exact hlt1
end
end Go.Proofs.YtakilnpfhljgfaaGreat.DK

/- The disk: Cut of any disk, goes, Restore, Barrier, Admit, Fence, Put. No condition. -/
namespace Go.Proofs.YtakilnpfhljgfaaGreat.DK
set_option maxRecDepth 100000
open Go.RowKit Go.Proofs.YtakilnpfhljgfaaGreat.MI
set_option linter.unusedVariables false
set_option linter.unusedSimpArgs false

section
variable {w w' : World} {B g N : Nat} {p : Pl} {D : Dk}
theorem cut_any (h : DiskAt w B g p N D) (A : Option Addr) (m c : Nat) (keep : List Int) (hl : Lies w 1 A m (keep.map (Value.int .i64))) (hA : 0 < m → ∃ b off, A = some ⟨b, off, none⟩) (hfar : 0 < m → ∀ ad, A = some ad → ¬ fp g p ad.block) (hN : N ≤ 1000000000) :
    Calls Tryz.prog 93 #[.pointer (some ⟨g, 0, none⟩), .slice A m c] w fun e w' => e = .returned (.int .i64 (cutN D : Int)) ∧ DiskOut w B g p N (cutK D keep) w' := by
  unfold cutN
  cases hon : D.on
  · exact cut_off h hon A m c keep
  · exact cut_on h hon A m c keep hl hA hfar hN
theorem goes_any (h : DiskAt w B g p N D) (hN : N ≤ 1000000000) : Calls Tryz.prog 65 #[.pointer (some ⟨g, 0, none⟩)] w fun e w' => e = .returned (.bool (goesB D)) ∧ DiskOut w B g p N (goesK D) w' := by
  have c9 : w.cell? ⟨g, 41, none⟩ = some (.bool D.armed) := h.blk.cell 41
  have c10 : w.cell? ⟨g, 42, none⟩ = some (.int .i64 D.left) := h.blk.cell 42
  have c11 : w.cell? ⟨g, 43, none⟩ = some (.slice p.sa p.sn p.sc) := h.blk.cell 43
  have f10 : w.frozen? ⟨g, 42, none⟩ = false := h.blk.frozen 42
  have hle := h.sane.left
  cases ha : D.armed
  · have h1 : goesB D = false := by unfold goesB; rw [ha]; rfl
    have h2 : goesK D = D := by unfold goesK; rw [ha]; rfl
    rw [h1, h2]
    rw [ha] at c9
    have H := Lib.hid h.out
    clear h h1 h2 ha
    go_enter Tryz.func65, Tryz.ntmps65
    go_wp2
    go_ret
    exact ⟨rfl, H.out⟩
  · by_cases hl : 0 < D.left
    · have h1 : goesB D = false := by unfold goesB; rw [ha]; simp [hl]
      have h2 : goesK D = { D with left := D.left - 1 } := by unfold goesK; rw [ha]; simp [hl]
      have b1 : decide (0 < D.left) = true := by simpa using hl
      have e1 : IntKind.i64.wrap (D.left - 1) = D.left - 1 := IntWalk.i64_in _ (by omega)
      rw [h1, h2]
      rw [ha] at c9
      have ho : DiskOut w B g p N { D with left := D.left - 1 } (w.setCell ⟨g, 42, none⟩ (.int .i64 (D.left - 1))) :=
        h.turnOut (keep1 w g 42 _) (h.blk.set_ 42 _) rfl rfl rfl rfl h.seq ⟨h.sane.room, h.sane.now, h.sane.lasts, h.sane.waits, by show D.left - 1 ≤ _; omega⟩
      have H := Lib.hid ho
      clear h h1 h2 ha ho
      go_enter Tryz.func65, Tryz.ntmps65
      go_wp2
      go_ret
      exact ⟨rfl, H.out⟩
    · have h1 : goesB D = true := by unfold goesB; rw [ha]; simp [hl]
      have h2 : goesK D = cutK D D.stays := by unfold goesK; rw [ha]; simp [hl]
      have b1 : decide (0 < D.left) = false := by simpa using hl
      rw [h1, h2]
      rw [ha] at c9
      have kc := cut_any h p.sa p.sn p.sc D.stays h.stays (fun h0 => by
        obtain ⟨ad, e, _⟩ := h.stays.2 h0
        obtain ⟨b, rfl⟩ := h.sn.2.2.2 ad e
        exact ⟨b, 0, e⟩) (fun _ ad e hk => h.far _ ⟨ad, e, rfl⟩ hk) hN
      clear h h1 h2 ha
      go_enter Tryz.func65, Tryz.ntmps65
      go_wp2_with (go_at_call 93; refine kc.mono ?_; rintro e w1 ⟨rfl, ho⟩; have HO := Lib.hid ho; clear ho kc)
      go_ret
      exact ⟨rfl, HO.out⟩
end
end Go.Proofs.YtakilnpfhljgfaaGreat.DK

/- The disk: Barrier, Admit, Fence, Put. No condition. -/
namespace Go.Proofs.YtakilnpfhljgfaaGreat.DK
set_option maxRecDepth 100000
open Go.RowKit Go.Proofs.YtakilnpfhljgfaaGreat.MI
set_option linter.unusedVariables false
set_option linter.unusedSimpArgs false

theorem may_cases (D : Dk) (n : Int) : (mayK D n = 14 ∧ D.on = false) ∨ (mayK D n = 1 ∧ inNode n = false) ∨ (mayK D n = 0 ∧ D.on = true ∧ inNode n = true) := by
  unfold mayK
  cases D.on <;> cases inNode n <;> simp
theorem may_in {D : Dk} {n : Int} (h : mayK D n = 0) : inNode n = true := by
  rcases may_cases D n with ⟨h1, _⟩ | ⟨h1, _⟩ | ⟨_, _, h1⟩
  · rw [h1] at h; cases h
  · rw [h1] at h; cases h
  · exact h1
theorem node_nat {n : Int} (h : inNode n = true) : 0 ≤ n ∧ n < 17 ∧ n.toNat < 17 := by unfold inNode at h; simp at h; omega
section
variable {w w' : World} {B g N : Nat} {p : Pl} {D : Dk}
set_option maxHeartbeats 1000000 in
theorem barrier_any (h : DiskAt w B g p N D) (n e : Int) (hN : N ≤ 1000000000) :
    Calls Tryz.prog 48 #[.pointer (some ⟨g, 0, none⟩), .int .i64 n, .int .u64 e] w fun e' w' => e' = .returned (.int .i64 (barrierE D n e)) ∧ DiskOut w B g p N (barrierK D n e) w' := by
  have km := may_any h n
  by_cases hm : mayK D n = 0
  · have ka := admits_any h n e (may_in hm)
    rw [hm] at km
    by_cases ha : admK D n e = 0
    · rw [ha] at ka
      have kg := goes_any h hN
      cases hg : goesB D
      · have r1 : barrierE D n e = 0 := by unfold barrierE; rw [if_pos hm, if_pos ha, hg]; rfl
        have r2 : barrierK D n e = settleK (goesK D) n := by unfold barrierK; rw [if_pos ⟨hm, ha⟩, hg]; rfl
        rw [r1, r2]
        rw [hg] at kg
        clear r1 r2 hg ha hm h
        go_enter Tryz.func48, Tryz.ntmps48
        go_wp2_with (first
          | (go_at_call 64; refine km.mono ?_; rintro e w1 ⟨rfl, rfl⟩)
          | (go_at_call 81; refine ka.mono ?_; rintro e w1 ⟨rfl, rfl⟩)
          | (go_at_call 65; refine kg.mono ?_; rintro e w1 ⟨rfl, ho⟩; obtain ⟨p1, h1, k1, g1, s1⟩ := ho; have ks := settle_any h1 n hN; have KC := Lib.hid (And.intro k1 (And.intro g1 s1)); clear h1 k1 g1 s1 kg km ka)
          | (go_at_call 82; refine ks.mono ?_; rintro e w2 ⟨rfl, ho⟩; have HO := Lib.hid (DiskOut.comp KC.out.1 KC.out.2.1 KC.out.2.2 ho); clear ho ks))
        go_ret
        exact ⟨rfl, HO.out⟩
      · have r1 : barrierE D n e = 14 := by unfold barrierE; rw [if_pos hm, if_pos ha, hg]; rfl
        have r2 : barrierK D n e = goesK D := by unfold barrierK; rw [if_pos ⟨hm, ha⟩, hg]; rfl
        rw [r1, r2]
        rw [hg] at kg
        clear r1 r2 hg ha hm h
        go_enter Tryz.func48, Tryz.ntmps48
        go_wp2_with (first
          | (go_at_call 64; refine km.mono ?_; rintro e w1 ⟨rfl, rfl⟩)
          | (go_at_call 81; refine ka.mono ?_; rintro e w1 ⟨rfl, rfl⟩)
          | (go_at_call 65; refine kg.mono ?_; rintro e w1 ⟨rfl, ho⟩; have HO := Lib.hid ho; clear ho kg km ka))
        go_ret
        exact ⟨rfl, HO.out⟩
    · have ha' : admK D n e = 34 := by unfold admK at ha ⊢; split at ha <;> simp_all
      have r1 : barrierE D n e = 34 := by unfold barrierE; rw [if_pos hm, if_neg ha]
      have r2 : barrierK D n e = D := by unfold barrierK; rw [if_neg (fun x => ha x.2)]
      rw [r1, r2]
      rw [ha'] at ka
      have H := Lib.hid h.out
      clear r1 r2 ha ha' hm h
      go_enter Tryz.func48, Tryz.ntmps48
      go_wp2_with (first
        | (go_at_call 64; refine km.mono ?_; rintro e w1 ⟨rfl, rfl⟩)
        | (go_at_call 81; refine ka.mono ?_; rintro e w1 ⟨rfl, rfl⟩))
      go_ret
      exact ⟨rfl, H.out⟩
  · have r1 : barrierE D n e = mayK D n := by unfold barrierE; rw [if_neg hm]
    have r2 : barrierK D n e = D := by unfold barrierK; rw [if_neg (fun x => hm x.1)]
    rw [r1, r2]
    obtain ⟨v, hv⟩ : ∃ v, mayK D n = v := ⟨_, rfl⟩
    rw [hv] at km hm ⊢
    have b1 : (v != 0) = true := by simpa using hm
    have H := Lib.hid h.out
    clear r1 r2 hm h hv
    go_enter Tryz.func48, Tryz.ntmps48
    go_wp2_with (go_at_call 64; refine km.mono ?_; rintro e w1 ⟨rfl, rfl⟩)
    go_ret
    exact ⟨rfl, H.out⟩

/-- A store into a node's place of the table of epochs, and of words. -/
theorem DiskAt.tabbed (h : DiskAt w B g p N D) {n : Int} (hn : inNode n = true) (v : Int) : w.frozen? ⟨g, 6 + n.toNat, none⟩ = false ∧ w.cell? ⟨g, 6 + n.toNat, none⟩ = some (uv (D.table n)) ∧ Blk (w.setCell ⟨g, 6 + n.toNat, none⟩ (uv v)) g TD (dcells { D with table := updF D.table n v } p.nb p.lb (.slice p.wa D.waits.length p.wc) (.slice p.sa p.sn p.sc)) :=
  ⟨h.blk.frozen _, (h.blk.cell _).trans (cell_tab _ _ _ _ _ hn), by rw [← set_tab _ _ _ _ _ hn]; exact h.blk.set_ _ _⟩
theorem DiskAt.worded (h : DiskAt w B g p N D) {n : Int} (hn : inNode n = true) (v : Int) : w.frozen? ⟨g, 23 + n.toNat, none⟩ = false ∧ w.cell? ⟨g, 23 + n.toNat, none⟩ = some (uv (D.words n)) ∧ Blk (w.setCell ⟨g, 23 + n.toNat, none⟩ (uv v)) g TD (dcells { D with words := updF D.words n v } p.nb p.lb (.slice p.wa D.waits.length p.wc) (.slice p.sa p.sn p.sc)) :=
  ⟨h.blk.frozen _, (h.blk.cell _).trans (cell_word _ _ _ _ _ hn), by rw [← set_word _ _ _ _ _ hn]; exact h.blk.set_ _ _⟩
theorem sane_like {D D' : Dk} (h : Sane D) (e1 : D'.room = D.room) (e2 : D'.now = D.now) (e3 : D'.lasts = D.lasts) (e4 : D'.waits = D.waits) (e5 : D'.left = D.left) : Sane D' :=
  ⟨by rw [e1]; exact h.room, by rw [e2]; exact h.now, by rw [e3]; exact h.lasts, by rw [e4]; exact h.waits, by rw [e5]; exact h.left⟩
theorem DiskAt.admitted (h : DiskAt w B g p N D) {n : Int} (hn : inNode n = true) (e : Int) : (∀ v, (w.setCell ⟨g, 6 + n.toNat, none⟩ v).frozen? ⟨g, 40, none⟩ = false) ∧ w.cell? ⟨g, 40, none⟩ = some (uv D.last) ∧
    DiskOut w B g p N { D with table := updF D.table n e, last := e } ((w.setCell ⟨g, 6 + n.toNat, none⟩ (uv e)).setCell ⟨g, 40, none⟩ (uv e)) := by
  obtain ⟨_, _, hb⟩ := h.tabbed hn e
  exact ⟨fun v => (h.blk.set_ _ v).frozen 40, h.blk.cell 40, h.turnOut (keep2 w g _ 40 _ _) (by exact hb.set_ 40 _) rfl rfl rfl rfl h.seq (sane_like h.sane rfl rfl rfl rfl rfl)⟩
set_option maxHeartbeats 1000000 in
theorem admit_any (h : DiskAt w B g p N D) (n e : Int) (hN : N ≤ 1000000000) :
    Calls Tryz.prog 30 #[.pointer (some ⟨g, 0, none⟩), .int .i64 n, .int .u64 e] w fun e' w' => e' = .returned (.int .i64 (admitE D n e)) ∧ DiskOut w B g p N (admitK D n e) w' := by
  have km := may_any h n
  have c40 : w.cell? ⟨g, 40, none⟩ = some (uv D.last) := h.blk.cell 40
  by_cases hm : mayK D n = 0
  · have hin := may_in hm
    obtain ⟨i1, i2, i3⟩ := node_nat hin
    rw [hm] at km
    by_cases ha : e ≤ D.last
    · have r1 : admitE D n e = 8 := by unfold admitE; rw [if_pos hm, if_pos ha]
      have r2 : admitK D n e = D := by unfold admitK; rw [if_neg (fun x => x.2 ha)]
      rw [r1, r2]
      obtain ⟨t, ht⟩ : ∃ t, D.last = t := ⟨_, rfl⟩
      rw [ht] at c40 ha
      have b1 : decide (e ≤ t) = true := by simpa using ha
      have H := Lib.hid h.out
      clear r1 r2 hm h ht
      go_enter Tryz.func30, Tryz.ntmps30
      go_wp2_with (go_at_call 64; refine km.mono ?_; rintro e w1 ⟨rfl, rfl⟩)
      go_ret
      exact ⟨rfl, H.out⟩
    · have kg := goes_any h hN
      cases hg : goesB D
      · have r1 : admitE D n e = 0 := by unfold admitE; rw [if_pos hm, if_neg ha, hg]; rfl
        have r2 : admitK D n e = { goesK D with table := updF (goesK D).table n e, last := e } := by unfold admitK; rw [if_pos ⟨hm, ha⟩, hg]; rfl
        rw [r1, r2]
        rw [hg] at kg
        obtain ⟨t, ht⟩ : ∃ t, D.last = t := ⟨_, rfl⟩
        rw [ht] at c40 ha
        have b1 : decide (e ≤ t) = false := by simpa using ha
        clear r1 r2 hg hm h ht ha
        go_enter Tryz.func30, Tryz.ntmps30
        go_wp2_with (first
          | (go_at_call 64; refine km.mono ?_; rintro e w1 ⟨rfl, rfl⟩)
          | (go_at_call 65; refine kg.mono ?_; rintro e w1 ⟨rfl, ho⟩; obtain ⟨p1, h1, k1, g1, s1⟩ := ho; obtain ⟨f1, d1, _⟩ := h1.tabbed hin e; obtain ⟨f2, d2, ho2⟩ := h1.admitted hin e; have HO := Lib.hid (DiskOut.comp k1 g1 s1 ho2); clear h1 k1 g1 s1 kg km ho2))
        go_ret
        exact ⟨rfl, HO.out⟩
      · have r1 : admitE D n e = 14 := by unfold admitE; rw [if_pos hm, if_neg ha, hg]; rfl
        have r2 : admitK D n e = goesK D := by unfold admitK; rw [if_pos ⟨hm, ha⟩, hg]; rfl
        rw [r1, r2]
        rw [hg] at kg
        obtain ⟨t, ht⟩ : ∃ t, D.last = t := ⟨_, rfl⟩
        rw [ht] at c40 ha
        have b1 : decide (e ≤ t) = false := by simpa using ha
        clear r1 r2 hg hm h ht ha
        go_enter Tryz.func30, Tryz.ntmps30
        go_wp2_with (first
          | (go_at_call 64; refine km.mono ?_; rintro e w1 ⟨rfl, rfl⟩)
          | (go_at_call 65; refine kg.mono ?_; rintro e w1 ⟨rfl, ho⟩; have HO := Lib.hid ho; clear ho kg km))
        go_ret
        exact ⟨rfl, HO.out⟩
  · have r1 : admitE D n e = mayK D n := by unfold admitE; rw [if_neg hm]
    have r2 : admitK D n e = D := by unfold admitK; rw [if_neg (fun x => hm x.1)]
    rw [r1, r2]
    obtain ⟨v, hv⟩ : ∃ v, mayK D n = v := ⟨_, rfl⟩
    rw [hv] at km hm ⊢
    have b1 : (v != 0) = true := by simpa using hm
    have H := Lib.hid h.out
    clear r1 r2 hm h hv
    go_enter Tryz.func30, Tryz.ntmps30
    go_wp2_with (go_at_call 64; refine km.mono ?_; rintro e w1 ⟨rfl, rfl⟩)
    go_ret
    exact ⟨rfl, H.out⟩
set_option maxHeartbeats 1000000 in
theorem put_any (h : DiskAt w B g p N D) (n e : Int) (hN : N ≤ 1000000000) :
    Calls Tryz.prog 59 #[.pointer (some ⟨g, 0, none⟩), .int .i64 n, .int .u64 e] w fun e' w' => e' = .returned (.int .i64 (fenceE D n)) ∧ DiskOut w B g p N (putK D n e) w' := by
  have km := may_any h n
  by_cases hm : mayK D n = 0
  · have hin := may_in hm
    obtain ⟨i1, i2, i3⟩ := node_nat hin
    rw [hm] at km
    have kg := goes_any h hN
    cases hg : goesB D
    · have r1 : fenceE D n = 0 := by unfold fenceE; rw [if_pos hm, hg]; rfl
      have r2 : putK D n e = { goesK D with words := updF (goesK D).words n e } := by unfold putK; rw [if_pos hm, hg]; rfl
      rw [r1, r2]
      rw [hg] at kg
      clear r1 r2 hg hm h
      go_enter Tryz.func59, Tryz.ntmps59
      go_wp2_with (first
        | (go_at_call 64; refine km.mono ?_; rintro e w1 ⟨rfl, rfl⟩)
        | (go_at_call 65; refine kg.mono ?_; rintro e w1 ⟨rfl, ho⟩; obtain ⟨p1, h1, k1, g1, s1⟩ := ho; obtain ⟨f1, d1, hb1⟩ := h1.worded hin e; have HO := Lib.hid (DiskOut.comp k1 g1 s1 (h1.turnOut (keep1 w1 g _ _) hb1 rfl rfl rfl rfl h1.seq (sane_like h1.sane rfl rfl rfl rfl rfl))); clear h1 k1 g1 s1 kg km hb1))
      go_ret
      exact ⟨rfl, HO.out⟩
    · have r1 : fenceE D n = 14 := by unfold fenceE; rw [if_pos hm, hg]; rfl
      have r2 : putK D n e = goesK D := by unfold putK; rw [if_pos hm, hg]; rfl
      rw [r1, r2]
      rw [hg] at kg
      clear r1 r2 hg hm h
      go_enter Tryz.func59, Tryz.ntmps59
      go_wp2_with (first
        | (go_at_call 64; refine km.mono ?_; rintro e w1 ⟨rfl, rfl⟩)
        | (go_at_call 65; refine kg.mono ?_; rintro e w1 ⟨rfl, ho⟩; have HO := Lib.hid ho; clear ho kg km))
      go_ret
      exact ⟨rfl, HO.out⟩
  · have r1 : fenceE D n = mayK D n := by unfold fenceE; rw [if_neg hm]
    have r2 : putK D n e = D := by unfold putK; rw [if_neg hm]
    rw [r1, r2]
    obtain ⟨v, hv⟩ : ∃ v, mayK D n = v := ⟨_, rfl⟩
    rw [hv] at km hm ⊢
    have b1 : (v != 0) = true := by simpa using hm
    have H := Lib.hid h.out
    clear r1 r2 hm h hv
    go_enter Tryz.func59, Tryz.ntmps59
    go_wp2_with (go_at_call 64; refine km.mono ?_; rintro e w1 ⟨rfl, rfl⟩)
    go_ret
    exact ⟨rfl, H.out⟩
theorem settle_fence (h : DiskAt w B g p N D) {n : Int} (hn : inNode n = true) {w2 : World} (ho : DiskOut w B g p N (settleK D n) w2) :
    w2.frozen? ⟨g, 6 + n.toNat, none⟩ = false ∧ w2.cell? ⟨g, 6 + n.toNat, none⟩ = some (uv (D.table n)) ∧ DiskOut w B g p N { settleK D n with table := updF D.table n 0 } (w2.setCell ⟨g, 6 + n.toNat, none⟩ (uv 0)) := by
  obtain ⟨p1, h1, k1, g1, s1⟩ := ho
  obtain ⟨f1, d1, hb1⟩ := h1.tabbed hn 0
  exact ⟨f1, d1, DiskOut.comp k1 g1 s1 (h1.turnOut (keep1 w2 g _ _) hb1 rfl rfl rfl rfl h1.seq (sane_like h1.sane rfl rfl rfl rfl rfl))⟩
set_option maxHeartbeats 1000000 in
theorem fence_any (h : DiskAt w B g p N D) (n : Int) (hN : N ≤ 1000000000) :
    Calls Tryz.prog 58 #[.pointer (some ⟨g, 0, none⟩), .int .i64 n] w fun e' w' => e' = .returned (.int .i64 (fenceE D n)) ∧ DiskOut w B g p N (fenceK D n) w' := by
  have km := may_any h n
  by_cases hm : mayK D n = 0
  · have hin := may_in hm
    obtain ⟨i1, i2, i3⟩ := node_nat hin
    rw [hm] at km
    have kg := goes_any h hN
    cases hg : goesB D
    · have r1 : fenceE D n = 0 := by unfold fenceE; rw [if_pos hm, hg]; rfl
      have r2 : fenceK D n = { settleK (goesK D) n with table := updF (goesK D).table n 0 } := by unfold fenceK; rw [if_pos hm, hg]; rfl
      rw [r1, r2]
      rw [hg] at kg
      clear r1 r2 hg hm h
      go_enter Tryz.func58, Tryz.ntmps58
      go_wp2_with (first
        | (go_at_call 64; refine km.mono ?_; rintro e w1 ⟨rfl, rfl⟩)
        | (go_at_call 65; refine kg.mono ?_; rintro e w1 ⟨rfl, ho⟩; obtain ⟨p1, h1, k1, g1, s1⟩ := ho; have ks := settle_any h1 n hN; have H1 := Lib.hid h1; have KC := Lib.hid (And.intro k1 (And.intro g1 s1)); clear h1 k1 g1 s1 kg km)
        | (go_at_call 82; refine ks.mono ?_; rintro e w2 ⟨rfl, ho⟩; obtain ⟨f1, d1, ho2⟩ := settle_fence H1.out hin ho; have HO := Lib.hid (DiskOut.comp KC.out.1 KC.out.2.1 KC.out.2.2 ho2); clear ho ho2 ks))
      go_ret
      exact ⟨rfl, HO.out⟩
    · have r1 : fenceE D n = 14 := by unfold fenceE; rw [if_pos hm, hg]; rfl
      have r2 : fenceK D n = goesK D := by unfold fenceK; rw [if_pos hm, hg]; rfl
      rw [r1, r2]
      rw [hg] at kg
      clear r1 r2 hg hm h
      go_enter Tryz.func58, Tryz.ntmps58
      go_wp2_with (first
        | (go_at_call 64; refine km.mono ?_; rintro e w1 ⟨rfl, rfl⟩)
        | (go_at_call 65; refine kg.mono ?_; rintro e w1 ⟨rfl, ho⟩; have HO := Lib.hid ho; clear ho kg km))
      go_ret
      exact ⟨rfl, HO.out⟩
  · have r1 : fenceE D n = mayK D n := by unfold fenceE; rw [if_neg hm]
    have r2 : fenceK D n = D := by unfold fenceK; rw [if_neg hm]
    rw [r1, r2]
    obtain ⟨v, hv⟩ : ∃ v, mayK D n = v := ⟨_, rfl⟩
    rw [hv] at km hm ⊢
    have b1 : (v != 0) = true := by simpa using hm
    have H := Lib.hid h.out
    clear r1 r2 hm h hv
    go_enter Tryz.func58, Tryz.ntmps58
    go_wp2_with (go_at_call 64; refine km.mono ?_; rintro e w1 ⟨rfl, rfl⟩)
    go_ret
    exact ⟨rfl, H.out⟩
end
end Go.Proofs.YtakilnpfhljgfaaGreat.DK
