/- Part 2 of the texts that the proof stands on, joined: RegTail, Dk9, Dk10, Dk11, DkFill, DkRef, DkAlive, DkEval, Sup4, Sup5, RegInv2, Sup6, Sup7, Sup8, Bk5, Rd1, Rd2, Rd3, Rd4, RefSum2, Rd5, Bk6, Bk1, Bk2, Bk3, Bk4, Bk7, Bk8. No condition. -/
import Derived.Test.YtakilnpfhljgfaaGreatM1
import Derived.Laws.MakeOwn
import Derived.Test.YtakilnpfhljgfaaGreatShelf
import Derived.Laws.StructEq
import Derived.Test.YtakilnpfhljgfaaGreatAppend
import Derived.Laws.OwnMore
import Derived.ArgAppend
import Derived.Deep.RegionHeld3
import Derived.Lib.SlBytesConst
/- A region that draws its order, whose last operation waits for all others and may write: what the others leave, in whatever order, then the last one. Over any program. No condition. -/
namespace Go.Proofs.YtakilnpfhljgfaaGreat
set_option maxRecDepth 100000
open Go Go.RowKit
set_option linter.unusedVariables false
set_option linter.unusedSimpArgs false

def depsOf (ops : Array Oper) (i : Nat) : List Nat := ((ops[i]?).map fun o => (o.after.toList.filter fun e => Region.binds .any e).map (·.on)).getD []
def sweep (ops : Array Oper) : Nat → List Nat → List Nat
  | 0, M => M
  | k + 1, M => sweep ops k (if M.contains k = true then M ++ depsOf ops k else M)
/-- The last operation waits for all others. -/
def tailOk (ops : Array Oper) : Bool := (List.range (ops.size - 1)).all fun j => (sweep ops ops.size [ops.size - 1]).contains j

section
variable {P : Program} {ops : Array Oper} {Q : Exit → Act → World → Prop} {a0 : Act} {w0 : World} {V : Nat → Value → World → Prop}

theorem sweep_ok {listed : Nat → Prop} {last : Nat} (hd : ∀ i, (i = last ∨ listed i) → ∀ j ∈ depsOf ops i, listed j) : ∀ (k : Nat) (M : List Nat), (∀ m ∈ M, m = last ∨ listed m) → ∀ m ∈ sweep ops k M, m = last ∨ listed m := by
  intro k
  induction k with
  | zero => intro M h; exact h
  | succ k ih =>
    intro M h
    rw [sweep]
    apply ih
    split
    · rename_i hk
      intro m hm
      rcases List.mem_append.1 hm with hm | hm
      · exact h m hm
      · exact .inr (hd k (h k (by simpa using hk)) m hm)
    · exact h

theorem ready_get {listed : Array Bool} {i : Nat} (hz : listed.size = ops.size) (hi : i ∈ Region.ready .any ops listed) : listed[i]? = some false ∧ ∃ o, ops[i]? = some o ∧ ∀ e ∈ o.after, Region.binds .any e = true → listed[e.on]? = some true := by
  unfold Region.ready at hi
  obtain ⟨h1, h2⟩ := List.mem_filter.1 hi
  have hlt := List.mem_range.1 h1
  obtain ⟨h3, h4⟩ := Bool.and_eq_true_iff.1 h2
  have ho : ops[i]? = some ops[i] := Array.getElem?_eq_getElem hlt
  refine ⟨?_, ops[i], ho, fun e he hb => ?_⟩
  · rw [Array.getElem?_eq_getElem (by omega)]
    simp [Array.getD, hz, hlt] at h3
    rw [h3]
  · rw [ho] at h4
    have h5 := Array.all_eq_true_iff_forall_mem.1 (show (ops[i].after.all fun e => !Region.binds .any e || listed.getD e.on false) = true from h4) e he
    rw [hb] at h5
    simp only [Bool.not_true, Bool.false_or] at h5
    rw [Array.getD_eq_getD_getElem?] at h5
    cases hx : listed[e.on]? with
    | none => rw [hx] at h5; simp at h5
    | some b => rw [hx] at h5; simp at h5; rw [h5]
theorem ready_none {listed : Array Bool} (hz : listed.size = ops.size) (h : ∀ i, i < ops.size → listed[i]? = some true) : Region.ready .any ops listed = [] := by
  apply List.eq_nil_iff_forall_not_mem.2
  intro i hi
  obtain ⟨h1, o, ho, _⟩ := ready_get hz hi
  rw [h i (Array.getElem?_eq_some_iff.1 ho).1] at h1
  cases h1
theorem ready_some {listed : Array Bool} (hok : ∀ i o e, ops[i]? = some o → e ∈ o.after → Region.binds .any e = true → e.on < i) (hz : listed.size = ops.size) (hr : Region.ready .any ops listed = []) : ∀ i, i < ops.size → listed[i]? = some true := by
  intro i
  induction i using Nat.strongRecOn with
  | ind i ih =>
    intro hi
    have hli : listed[i]? = some listed[i] := Array.getElem?_eq_getElem (by omega)
    by_cases hb : listed[i] = true
    · rw [hli, hb]
    · exfalso
      have : i ∈ Region.ready .any ops listed := by
        unfold Region.ready
        refine List.mem_filter.2 ⟨List.mem_range.2 hi, ?_⟩
        have hb' : listed[i] = false := by simpa using hb
        have ho : ops[i]? = some ops[i] := Array.getElem?_eq_getElem hi
        refine Bool.and_eq_true_iff.2 ⟨by simp [Array.getD, hz, hi, hb'], ?_⟩
        rw [ho]
        show (ops[i].after.all _) = true
        refine Array.all_eq_true_iff_forall_mem.2 fun e he => ?_
        by_cases hbd : Region.binds .any e = true
        · have hlt := hok i ops[i] e ho he hbd
          have := ih e.on hlt (by omega)
          rw [Array.getD_eq_getD_getElem?, this]
          simp
        · simp [hbd]
      rw [hr] at this
      cases this
/-- One step of those that leave what V says. -/
theorem reg_put {n : Nat} (hok : regionOk ops n = true) (hn : a0.tmps.size = n) (stab : ∀ i v w w', Below w.heap.size w w' → V i v w → V i v w') {done : Nat → Prop} {a : Act} {w w' : World} (h : RegAt ops a0 w0 V done a w) {i : Nat} {o : Oper} (ho : ops[i]? = some o)
    {v : Value} (hb : Below w.heap.size w w') (hv : V i v w') : RegAt ops a0 w0 V (fun j => done j ∨ j = i) (a.put o.dst v) w' := by
  obtain ⟨k1, k2, _⟩ := regionOk_spec hok
  have hdi : dstAt ops i = o.dst := by unfold dstAt; rw [ho]; rfl
  have hput : ∀ d, o.dst = some d → d < a.tmps.size := fun d hd => by rw [h.size, hn]; exact k1 i o d ho hd
  refine ⟨h.bel.trans (hb.mono h.bel.size), ?_, ?_, fun t ht => ?_, fun j d hj hd => ?_⟩
  · rw [← h.defers]; unfold Act.put; cases o.dst <;> rfl
  · rw [← h.size]; unfold Act.put; cases o.dst <;> simp
  · rw [← h.out t ht]
    have hne : o.dst ≠ some t := by
      have := Array.all_eq_true_iff_forall_mem.1 ht o (Array.mem_of_getElem? ho)
      simpa using this
    unfold Act.put
    cases hd : o.dst with
    | none => rfl
    | some d =>
      have : d ≠ t := fun e => hne (by rw [hd, e])
      simp [Array.getElem?_setIfInBounds, this]
  · by_cases hji : j = i
    · subst hji
      have hd' : o.dst = some d := by rw [← hdi, hd]
      refine ⟨v, ?_, hv⟩
      unfold Act.put
      rw [hd']
      simp [Array.getElem?_setIfInBounds, hput d hd']
    · obtain ⟨u, hu, hvu⟩ := h.got j d (hj.resolve_right hji) hd
      refine ⟨u, ?_, stab j u w w' hb hvu⟩
      rw [← hu]
      unfold Act.put
      cases hd' : o.dst with
      | none => rfl
      | some d' =>
        have : d' ≠ d := fun e => hji (k2 j i d hd (by rw [hdi, hd', e]))
        simp [Array.getElem?_setIfInBounds, this]

def Closed (ops : Array Oper) (listed : Array Bool) : Prop := ∀ i, listed[i]? = some true → ∀ j ∈ depsOf ops i, listed[j]? = some true

theorem reg_tail (hok : regionOk ops a0.tmps.size = true) (htl : tailOk ops = true) {last : Nat} (hlast : last + 1 = ops.size) (stab : ∀ i v w w', Below w.heap.size w w' → V i v w → V i v w')
    (step : ∀ i o, i < last → ops[i]? = some o → StepOk P ops Q a0 w0 V i o)
    (fin : ∀ o a w, ops[last]? = some o → RegAt ops a0 w0 V (fun j => j < last) a w → ∀ K : Act → World → Prop, (∀ a w, Q .normal a w → K a w) → if Region.wanted o (yielded ops a.tmps) = true then o.wp P a w K Q else K (a.put o.dst undef) w) :
    ∀ (fuel : Nat) (listed : Array Bool) (a : Act) (w : World), listed.size = ops.size → listed.toList.count false ≤ fuel → listed[last]? = some false → Closed ops listed → RegAt ops a0 w0 V (fun j => listed[j]? = some true) a w → wpAny P .any ops Q fuel listed a w := by
  obtain ⟨k1, k2, k3⟩ := regionOk_spec hok
  intro fuel
  induction fuel with
  | zero =>
    intro listed a w hz hc hl
    exfalso
    have : false ∈ listed.toList := List.mem_of_getElem? (by simpa using hl)
    have := List.count_pos_iff.2 this
    omega
  | succ fuel ih =>
    intro listed a w hz hc hl hcl h
    refine ⟨fun hr => ?_, fun i hi => ?_⟩
    · have := ready_some k3 hz hr last (by omega)
      rw [this] at hl; cases hl
    obtain ⟨h1, o, ho, hdep⟩ := ready_get hz hi
    have hdeps : ∀ j ∈ depsOf ops i, listed[j]? = some true := fun j hj => by
      unfold depsOf at hj
      rw [ho] at hj
      simp only [Option.map_some, Option.getD_some] at hj
      obtain ⟨e, he, rfl⟩ := List.mem_map.1 hj
      obtain ⟨he1, he2⟩ := List.mem_filter.1 he
      exact hdep e (by simpa using he1) he2
    have hlt : i < ops.size := (Array.getElem?_eq_some_iff.1 ho).1
    refine wpOp_step ho fun K hK => ?_
    by_cases hil : i = last
    · subst hil
      have hall : ∀ j, j < i → listed[j]? = some true := fun j hj => by
        have h2 := List.all_eq_true.1 htl j (List.mem_range.2 (by omega))
        rw [show ops.size - 1 = i by omega] at h2
        rcases sweep_ok (ops := ops) (listed := fun j => listed[j]? = some true) (last := i) (fun k hk j' hj' => by
          rcases hk with e | hk
          · rw [e] at hj'; exact hdeps j' hj'
          · exact hcl k hk j' hj') ops.size [i] (by simp) j (by simpa using h2) with h3 | h3
        · omega
        · exact h3
      refine fin o a w ho ⟨h.bel, h.defers, h.size, h.out, fun j d hj hd => h.got j d (hall j hj) hd⟩ K fun a' w' hq => hK _ _ ?_
      have hdone : ∀ j, j < ops.size → (listed.setIfInBounds i true)[j]? = some true := fun j hj => by
        by_cases e : j = i
        · subst e; simp [hz, hlt]
        · rw [Array.getElem?_setIfInBounds_ne (fun e' => e e'.symm)]; exact hall j (by omega)
      have hr := ready_none (ops := ops) (listed := listed.setIfInBounds i true) (by simpa using hz) hdone
      cases fuel with
      | zero => exact ⟨hr, hq⟩
      | succ _ => exact ⟨fun _ => hq, by rw [hr]; simp⟩
    · have hc' : (listed.setIfInBounds i true).toList.count false ≤ fuel := by
        have := count_set_true listed.toList i (by simpa using h1)
        simp only [Array.toList_setIfInBounds]
        omega
      have hat : RegAt ops a0 w0 V (fun j => depB o j = true) a w := ⟨h.bel, h.defers, h.size, h.out, fun j d hj hd => by
        unfold depB at hj
        obtain ⟨e, he, hb⟩ := Array.any_eq_true'.1 hj
        simp only [Bool.and_eq_true, beq_iff_eq] at hb
        exact h.got j d (by rw [← hb.2]; exact hdep e he hb.1) hd⟩
      refine step i o (by omega) ho a w hat K fun v w' hb hv => hK _ _ (ih _ _ _ (by simpa using hz) hc' ?_ ?_ ?_)
      · rw [Array.getElem?_setIfInBounds_ne hil]; exact hl
      · intro k hk j hj
        by_cases e : j = i
        · subst e; simp [hz, hlt]
        · rw [Array.getElem?_setIfInBounds_ne (fun e' => e e'.symm)]
          by_cases ek : k = i
          · subst ek; exact hdeps j hj
          · rw [Array.getElem?_setIfInBounds_ne (fun e' => ek e'.symm)] at hk; exact hcl k hk j hj
      · have := reg_put hok rfl stab h ho hb hv
        refine ⟨this.bel, this.defers, this.size, this.out, fun j d hj hd => this.got j d ?_ hd⟩
        by_cases e : j = i
        · exact .inr e
        · rw [Array.getElem?_setIfInBounds_ne (fun e' => e e'.symm)] at hj; exact .inl hj

theorem wp_region_tail {id : Nat} {l : List Oper} {o : Oper} {a : Act} {w : World} (last : Nat) (V : Nat → Value → World → Prop) (hm : P.follows .mixedOrders = true) (hlen : l.length = last + 1) (ho : l[last]? = some o) (hok : regionOk l.toArray a.tmps.size = true) (htl : tailOk l.toArray = true)
    (stab : ∀ i v w w', Below w.heap.size w w' → V i v w → V i v w')
    (step : stepsFrom P l.toArray Q a w.drew V 0 (l.take last))
    (fin : ∀ a' w', RegAt l.toArray a w.drew V (fun j => j < last) a' w' → ∀ K : Act → World → Prop, (∀ a w, Q .normal a w → K a w) → if Region.wanted o (yielded l.toArray a'.tmps) = true then o.wp P a' w' K Q else K (a'.put o.dst undef) w') : (Code.region id l.toArray true).wp P Q a w :=
  wp_region_any hm (reg_tail (w0 := w.drew) hok htl (last := last) (by simp [hlen]) stab
    (fun i o' hi h => by have := step i o' (by rw [List.getElem?_take, if_pos hi]; simpa using h); rwa [Nat.zero_add] at this)
    (fun o' a' w' h' hF => by
      have : o' = o := by have h2 : l[last]? = some o' := by simpa using h'
                          rw [ho] at h2; injection h2 with h2; exact h2.symm
      subst this
      exact fin a' w' hF) _ _ a w.drew (by simp) (by simp)
    (by rw [Array.getElem?_replicate, if_pos (by simp [hlen])])
    (fun i hi => by rw [Array.getElem?_replicate] at hi; split at hi <;> cases hi)
    ⟨Below.refl _ _, rfl, rfl, fun _ _ => rfl, fun j d hj _ => by
      rw [Array.getElem?_replicate] at hj; split at hj <;> cases hj⟩)
/-- The slots that a region's operations write. -/
def dsts (ops : Array Oper) : List Nat := ops.toList.filterMap (·.dst)
theorem fold_get (T : Array Value) : ∀ (D : List Nat) (A : Array Value) (t : Nat), A.size = T.size → (D.foldl (fun arr d => arr.setIfInBounds d (T.getD d undef)) A).size = T.size ∧
    ((D.foldl (fun arr d => arr.setIfInBounds d (T.getD d undef)) A)[t]? = T[t]? ∨ (D.contains t = false ∧ (D.foldl (fun arr d => arr.setIfInBounds d (T.getD d undef)) A)[t]? = A[t]?)) := by
  intro D
  induction D with
  | nil => intro A t hs; exact ⟨hs, .inr ⟨rfl, rfl⟩⟩
  | cons d D ih =>
    intro A t hs
    rw [List.foldl_cons]
    obtain ⟨h1, h2⟩ := ih (A.setIfInBounds d (T.getD d undef)) t (by simpa using hs)
    refine ⟨h1, ?_⟩
    rcases h2 with h2 | ⟨h2, h3⟩
    · exact .inl h2
    · rw [h3]
      by_cases hd : d = t
      · subst hd
        left
        by_cases hl : d < T.size
        · rw [Array.getElem?_setIfInBounds_self_of_lt (by omega)]
          simp [Array.getD_eq_getD_getElem?, hl]
        · rw [Array.getElem?_eq_none (by simp; omega), Array.getElem?_eq_none (by omega)]
      · right
        refine ⟨?_, by rw [Array.getElem?_setIfInBounds_ne hd]⟩
        simp at h2 ⊢
        exact ⟨fun e => hd e.symm, h2⟩
theorem RegAt.frame {done : Nat → Prop} {a : Act} {w : World} (h : RegAt ops a0 w0 V done a w) : a = ⟨(dsts ops).foldl (fun arr d => arr.setIfInBounds d (a.tmps.getD d undef)) a0.tmps, a0.defers⟩ := by
  obtain ⟨T, D⟩ := a
  have hd := h.defers
  have hs := h.size
  have ho := h.out
  simp only at hd hs ho
  subst hd
  congr 1
  apply Array.ext_getElem?
  intro t
  rcases (fold_get T (dsts ops) a0.tmps t hs.symm).2 with h1 | ⟨h1, h2⟩
  · exact h1.symm
  · rw [h2]
    apply ho
    unfold outB
    refine Array.all_eq_true_iff_forall_mem.2 fun o hm => ?_
    rw [bne_iff_ne]
    intro e
    have : t ∈ dsts ops := List.mem_filterMap.2 ⟨o, by simpa using hm, e⟩
    simp at h1
    exact h1 this
end
end Go.Proofs.YtakilnpfhljgfaaGreat

/- The disk: Write. No condition. -/
namespace Go.Proofs.YtakilnpfhljgfaaGreat.DK
set_option maxRecDepth 100000
open Go.RowKit Go.Proofs.YtakilnpfhljgfaaGreat.MI
set_option linter.unusedVariables false
set_option linter.unusedSimpArgs false

/-- A pointer to a new block. -/
def PtrAt (S : Nat) (t : TypeId) (cs : Array Value) (v : Value) (w : World) : Prop := ∃ x, v = .pointer (some ⟨x, 0, none⟩) ∧ Blk w x t cs ∧ S ≤ x
theorem stab_ptr (S : Nat) (t : TypeId) (cs : Array Value) : Stab (fun v w => PtrAt S t cs v w) := fun v w w' hb h => by
  obtain ⟨x, e, hx, hs⟩ := h
  exact ⟨x, e, hx.keeps (Keeps.of_below hb (fun _ => False)) id, hs⟩
theorem sect_cut {b : ByteArray} {k : Nat} : b.extract (k * 64) ((k + 1) * 64) = sect b k := rfl
section
variable {w w' : World} {B g N : Nat} {p : Pl} {D : Dk}
theorem one_end {wr W1 W2 W3 W4 : World} {p2 : Pl} {D2 : Dk} {N2 m c4 : Nat} {o : Obj} {a4 : Option Addr} (h2 : DiskAt wr B g p2 N2 D2) (n q : Int) (b : ByteArray) (hb : b.size = 64) (hq : 0 ≤ q ∧ q < 20000)
    (e1 : wr.setCell ⟨g, 2, none⟩ (.int .i64 ((D2.seq : Int) + 1)) = W1) (hB2 : Below W1.heap.size W1 W2) (hmN : m ≤ N2) (hm3 : MapAt scode Tryz.prog TI W3 p2.nb (m + 1) (putF D2.now q b)) (hg3 : W2.drew.grownBy W3 (some p2.nb))
    (ho4 : W4.ownsRow B TW 4 (.slice a4 (D2.waits.length + 1) c4) (D2.waits.length + 1) (D2.waits.flatMap wval ++ wval (oneW D2 n q b))) (hg4 : (W3.drew.alloc o).grownBy W4 (Value.slice p2.wa 0 0).ownBlock)
    (hat4 : (Value.slice a4 0 0).ownBlock = (Value.slice p2.wa 0 0).ownBlock ∨ (Value.slice a4 0 0).ownBlock = some (W3.drew.alloc o).heap.size) :
    W4.frozen? ⟨g, 5, none⟩ = false ∧ W4.cell? ⟨g, 5, none⟩ = some (.slice p2.wa D2.waits.length p2.wc) ∧ DiskOut wr B g p2 (N2 + 1) (oneK D2 n q b) (W4.setCell ⟨g, 5, none⟩ (.slice a4 (D2.waits.length + 1) c4)) := by
  have k1 : Keeps (only g) wr W1 := e1 ▸ keep1 wr g 2 _
  have b1 : Blk W1 g TD _ := e1 ▸ h2.blk.set_ 2 (.int .i64 ((D2.seq : Int) + 1))
  have k12 : Keeps (only g) wr W2 := k1.trans (Keeps.of_below hB2 (fun _ => False)) (fun _ _ h => h.elim)
  have k3 : Keeps (fun k => k = g ∨ k = p2.nb) wr W3 := ((k12.mono (S' := fun k => k = g ∨ k = p2.nb) (fun k _ e => .inl e)).drew).grown hg3 (fun k e _ => .inr (by injection e with e; exact e.symm))
  have kA : Keeps (fun k => k = g ∨ k = p2.nb ∨ (Value.slice p2.wa 0 0).ownBlock = some k) wr W4 := (((k3.mono (S' := fun k => k = g ∨ k = p2.nb ∨ (Value.slice p2.wa 0 0).ownBlock = some k) (fun k _ e => e.imp id .inl)).drew).alloc o).grown hg4 (fun k e _ => .inr (.inr e))
  have k4 : Keeps (fun k => (Value.slice p2.wa 0 0).ownBlock = some k) W3 W4 := (((Keeps.refl _ W3).drew).alloc o).grown hg4 (fun k e _ => e)
  have k5 := keep1 W4 g 5 (.slice a4 (D2.waits.length + 1) c4)
  have kE : Keeps (fun k => k = g ∨ k = p2.nb ∨ (Value.slice p2.wa 0 0).ownBlock = some k) wr (W4.setCell ⟨g, 5, none⟩ (.slice a4 (D2.waits.length + 1) c4)) := kA.trans k5 (fun _ _ e => .inl e)
  have hnw := h2.neW
  have b4 : Blk W4 g TD _ := (((b1.below hB2 b1.lt).drew.grown hg3 (by intro e; injection e with e; exact h2.neGN e.symm)).drew.alloc o).grown hg4 (by intro e; exact (hnw g e.symm).1 rfl)
  have b5 := b4.set_ 5 (.slice a4 (D2.waits.length + 1) c4)
  have hs3 : wr.heap.size ≤ (W3.drew.alloc o).heap.size := by have h1 := k3.size; have h2 : (W3.drew.alloc o).heap.size = W3.heap.size + 1 := Array.size_push _; omega
  have hnew : ∀ k, (Value.slice a4 0 0).ownBlock = some k → (Value.slice p2.wa 0 0).ownBlock = some k ∨ wr.heap.size ≤ k := by
    intro k hk
    rcases hat4 with e | e
    · exact .inl (e ▸ hk)
    · rw [hk] at e; injection e with e; exact .inr (by omega)
  refine ⟨b4.frozen 5, b4.cell 5, { p2 with wa := a4, wc := c4 }, ?_, kE.mono (fun k _ e => by rcases e with e | e | e; exact .inl e; exact .inr (.inl e); exact .inr (.inr (.inr e))), fun k hk => ?_, fun k hk => .inl hk⟩
  · obtain ⟨nl, hl1, hl2⟩ := h2.lasts
    have hlen : (oneK D2 n q b).waits.length = D2.waits.length + 1 := by unfold oneK; simp
    refine ⟨?_, ⟨m + 1, by omega, ?_⟩, ⟨nl, by rw [hlen]; omega, hl2.keeps kE ?_⟩, ?_, h2.stays.keeps (by decide) kE (fun ad e hs => h2.far _ ⟨ad, e, rfl⟩ (by rcases hs with e | e | e; exact .inl e; exact .inr (.inl e); exact .inr (.inr (.inr e)))), h2.sn, fun k hk1 hk2 => ?_, fun k hk => ⟨(h2.spl k hk).1, Nat.lt_of_lt_of_le (h2.spl k hk).2 kE.size⟩, h2.geg, h2.gen, h2.gel, h2.ne, ?_, h2.sane.one n q b hb hq⟩
    · rw [hlen]; exact b5
    · exact (hm3.keeps k4 (fun e => (hnw _ e).2.1 rfl)).setCell h2.neGN _
    · rintro (e | e | e)
      · exact h2.neGL e
      · exact h2.ne e.symm
      · exact (hnw _ e).2.2 rfl
    · rw [hlen, show (oneK D2 n q b).waits = D2.waits ++ [oneW D2 n q b] from rfl, List.flatMap_append]
      simp only [List.flatMap_cons, List.flatMap_nil, List.append_nil]
      exact own_keeps ho4 k5 (fun k hk e => by
        have h3 := own_ne ho4 b4 (show TW ≠ TD by decide)
        unfold only at e
        subst e
        exact h3 hk)
    · rcases hk2 with e | e | e | e
      · exact h2.far k hk1 (.inl e)
      · exact h2.far k hk1 (.inr (.inl e))
      · exact h2.far k hk1 (.inr (.inr (.inl e)))
      · rcases hnew k e with e | e
        · exact h2.far k hk1 (.inr (.inr (.inr e)))
        · have := (h2.spl k hk1).2; omega
    · have := h2.seq; show D2.seq + 1 ≤ N2 + 1; omega
  · rcases hk with e | e | e | e
    · exact .inl (.inl e)
    · exact .inl (.inr (.inl e))
    · exact .inl (.inr (.inr (.inl e)))
    · exact (hnew k e).imp (fun e => .inr (.inr (.inr e))) id
theorem many_room (D : Dk) (n a : Int) (b : ByteArray) (k : Nat) : (manyK D n a b k).room = D.room := by
  induction k with
  | zero => rfl
  | succ k ih => exact ih
set_option maxHeartbeats 4000000 in
theorem write_rounds {w1 : World} {p1 : Pl} {D1 : Dk} (h1 : DiskAt w1 B g p1 N D1) (n e q : Int) (b : ByteArray) (hN : N ≤ 100000000) (km : Calls Tryz.prog 64 #[.pointer (some ⟨g, 0, none⟩), .int .i64 n] w fun e' w' => e' = .returned (.int .i64 0) ∧ w' = w)
    (ka : Calls Tryz.prog 81 #[.pointer (some ⟨g, 0, none⟩), .int .i64 n, .int .u64 e] w fun e' w' => e' = .returned (.int .i64 0) ∧ w' = w)
    (kt : Calls Tryz.prog 86 #[.pointer (some ⟨g, 0, none⟩), .int .i64 q, .int .i64 ((b.size / 64 : Nat) : Int)] w fun e' w' => e' = .returned (.bool true) ∧ w' = w)
    (kg : Calls Tryz.prog 65 #[.pointer (some ⟨g, 0, none⟩)] w fun e' w' => e' = .returned (.bool false) ∧ w1 = w')
    (hb1 : 64 ≤ b.size) (hb2 : b.size / 64 ≤ 16) (hb3 : b.size % 64 = 0) (ha : 0 ≤ q ∧ q + ((b.size / 64 : Nat) : Int) ≤ 20000) :
    Calls Tryz.prog 75 #[.pointer (some ⟨g, 0, none⟩), .int .i64 n, .int .u64 e, .int .i64 q, .string b] w fun e' w' => e' = .returned (.int .i64 0) ∧ DiskOut w1 B g p1 (N + b.size / 64) (manyK D1 n q b (b.size / 64)) w' := by
  obtain ⟨i0, hi, hz0, hz1, hz2⟩ := info_parts infW
  have hsz : b.size < 2000 := by omega
  obtain ⟨c, hc⟩ : ∃ c, b.size / 64 = c := ⟨_, rfl⟩
  have hbs : b.size = c * 64 := by omega
  rw [hc] at kt ha ⊢
  have hqq : (b.size : Int).tdiv 64 = (c : Int) := by rw [Int.tdiv_eq_ediv_of_nonneg (by omega)]; omega
  have hm : (b.size : Int).tmod 64 = 0 := by rw [Int.tmod_eq_emod_of_nonneg (by omega)]; omega
  have hc1 : 1 ≤ c := by omega
  have hc2 : c ≤ 16 := by omega
  have H1 : Hid (DiskOut w1 B g p1 (N + 0) (manyK D1 n q b 0) w1) := Lib.hid h1.out
  have HSTAB : AllStab [] := allStab_nil
  clear hb1 hb2 hb3 hc h1
  go_enter Tryz.func75, Tryz.ntmps75
  go_wp2_with (first
    | (go_at_call 64; refine km.mono ?_; rintro e w0 ⟨rfl, rfl⟩)
    | (go_at_call 81; refine ka.mono ?_; rintro e w0 ⟨rfl, rfl⟩)
    | (go_at_call 86; refine kt.mono ?_; rintro e w0 ⟨rfl, rfl⟩)
    | (go_at_call 65; refine kg.mono ?_; rintro e w2 ⟨rfl, rfl⟩))
  clear km ka kt kg
  go_loopw [52] (fun i wr => ∃ k, k ≤ c ∧ i = .int .i64 (k : Int) ∧ Hid (DiskOut w1 B g p1 (N + k) (manyK D1 n q b k) wr)) (fun i _ => c - (intOf i).toNat)
  case atStart => exact ⟨0, Nat.zero_le _, rfl, H1⟩
  case round =>
    obtain ⟨k, hk, rfl, HR⟩ := hrel
    by_cases hlt : k < c
    · obtain ⟨p2, h2, k2, g2, s2⟩ := HR.out
      obtain ⟨s, hs⟩ : ∃ s, (manyK D1 n q b k).seq = s := ⟨_, rfl⟩
      have hsN : s ≤ N + k := by rw [← hs]; exact h2.seq
      have c2 : wr.cell? ⟨g, 2, none⟩ = some (.int .i64 (s : Int)) := by rw [← hs]; exact h2.blk.cell 2
      have f2 : wr.frozen? ⟨g, 2, none⟩ = false := h2.blk.frozen 2
      have e1 : IntKind.i64.wrap ((s : Int) + 1) = (s : Int) + 1 := IntWalk.i64_in _ (by omega)
      obtain ⟨W1, hW1⟩ : ∃ W1, wr.setCell ⟨g, 2, none⟩ (.int .i64 ((s : Int) + 1)) = W1 := ⟨_, rfl⟩
      have hb1 : Blk W1 g TD _ := hW1 ▸ h2.blk.set_ 2 (.int .i64 ((s : Int) + 1))
      have HC2 : Hid (W1.cell? ⟨g, 2, none⟩ = some (.int .i64 ((s : Int) + 1))) := Lib.hid (hb1.cell 2)
      have HLT : Hid (g < W1.heap.size) := Lib.hid hb1.lt
      have HSZ : Hid ((sect b k).size ≤ 281474976710656) := Lib.hid (by rw [sect_size (by omega)]; omega)
      have e2 : IntKind.i64.wrap (q + (k : Int)) = q + (k : Int) := IntWalk.i64_in _ (by omega)
      have e3 : IntKind.i64.wrap ((k : Int) * 64) = (k : Int) * 64 := IntWalk.i64_in _ (by omega)
      have e4 : IntKind.i64.wrap ((k : Int) + 1) = (k : Int) + 1 := IntWalk.i64_in _ (by omega)
      have e5 : IntKind.i64.wrap (((k : Int) + 1) * 64) = ((k : Int) + 1) * 64 := IntWalk.i64_in _ (by omega)
      have e6 : ((k : Int) * 64).toNat = k * 64 := by omega
      have e7 : (((k : Int) + 1) * 64).toNat = (k + 1) * 64 := by omega
      have i1 : (0 : Int) ≤ (k : Int) * 64 := by omega
      have i2 : (k : Int) * 64 ≤ ((k : Int) + 1) * 64 := by omega
      have i3 : ((k : Int) + 1) * 64 ≤ (b.size : Int) := by omega
      have hsl : ∀ w : World, (Instr.slice 9 (.string b) (some (.int .i64 ((k : Int) * 64))) (some (.int .i64 (((k : Int) + 1) * 64))) none).run Tryz.prog w = .ok (.string (sect b k)) w := fun w => by
        rw [run_slice_string (P := Tryz.prog) w _ b .i64 .i64 ((k : Int) * 64) (((k : Int) + 1) * 64) Tryz.underlying9 (by omega) (by omega) (by omega), e6, e7]; rfl
      have hst := stab_ptr W1.heap.size TW #[.int .i64 0, .int .i64 0, .int .i64 0, .string (ByteArray.mk #[])]
      have HH := Lib.hid h2
      have HB1 := Lib.hid hb1
      have HKC := Lib.hid (And.intro k2 (And.intro g2 s2))
      obtain ⟨mm, hmm1, hmm2⟩ := h2.now
      have HMM : Hid (MapAt scode Tryz.prog TI W1 p2.nb mm (manyK D1 n q b k).now) := Lib.hid (hW1 ▸ hmm2.setCell h2.neGN _)
      have HSEQ := Lib.hid hs
      have HW1 := Lib.hid hW1
      have HSC : Hid ((sect b k).size = 64) := Lib.hid (sect_size (by omega))
      have HWQ : Hid (WfI (q + (k : Int))) := Lib.hid (wfA ⟨by omega, by omega⟩)
      clear h2 k2 g2 s2 hb1 hs hmm2
      go_wp2_with fail
      clear hW1
      refine wp_region_tail 18 (fun i' v' w' => ([(fun v' _ => v' = (.int .i64 n)), (fun v' _ => v' = (.int .i64 q)), (fun v' _ => v' = (.int .i64 (k : Int))), (fun v' _ => v' = (.int .i64 (q + (k : Int)))), (fun v' _ => v' = (.pointer (some ⟨g, 0, none⟩))), (fun v' _ => v' = (.pointer (some ⟨g, 0, none⟩))), (fun v' _ => v' = (.pointer (some ⟨g, 2, none⟩))), (fun v' _ => v' = (.int .i64 ((s : Int) + 1))), (fun v' _ => v' = (.string b)), (fun v' _ => v' = (.int .i64 (k : Int))), (fun v' _ => v' = (.int .i64 ((k : Int) * 64))), (fun v' _ => v' = (.int .i64 (k : Int))), (fun v' _ => v' = (.int .i64 ((k : Int) + 1))), (fun v' _ => v' = (.int .i64 (((k : Int) + 1) * 64))), (fun v' _ => v' = (.string (sect b k))), (fun v' _ => v' = (.string (sect b k))), (fun v' _ => v' = (.agg #[.int .i64 n, .int .i64 (q + (k : Int)), .int .i64 ((s : Int) + 1), .string (sect b k)])), (fun v' w' => PtrAt W1.heap.size TW #[.int .i64 0, .int .i64 0, .int .i64 0, .string (ByteArray.mk #[])] v' w')] : List (Value → World → Prop)).getD i' (fun _ _ => True) v' w') (by kernel_rfl) (by rfl) (by rfl) (by kernel_rfl) (by kernel_rfl) (stab_list (by
          repeat (first | exact allStab_nil | refine allStab_cons (stab_eq _) ?_ | refine allStab_cons (stab_slice _ _) ?_ | (refine allStab_cons ?_ ?_; (with_reducible assumption))))) ?_ ?_
      · simp only [List.take_succ_cons, List.take_zero]
        refine steps_cons rfl ?_ ?_
        · intro a w hR K hK
          have e1 : a.tmps.getD 1 undef = (.int .i64 n) := hR.old 1 (by kernel_rfl) rfl
          rw [if_pos (wanted_none rfl)]
          have hB := hR.bel
          clear hR
          go_simp
          exact hK _ _ (belowSame _) rfl
        refine steps_cons rfl ?_ ?_
        · intro a w hR K hK
          have e3 : a.tmps.getD 3 undef = (.int .i64 q) := hR.old 3 (by kernel_rfl) rfl
          rw [if_pos (wanted_none rfl)]
          have hB := hR.bel
          clear hR
          go_simp
          exact hK _ _ (belowSame _) rfl
        refine steps_cons rfl ?_ ?_
        · intro a w hR K hK
          have e14 : a.tmps.getD 14 undef = (.int .i64 (k : Int)) := hR.old 14 (by kernel_rfl) rfl
          rw [if_pos (wanted_none rfl)]
          have hB := hR.bel
          clear hR
          go_simp
          exact hK _ _ (belowSame _) rfl
        refine steps_cons rfl ?_ ?_
        · intro a w hR K hK
          obtain ⟨v63, e63, _, q63⟩ := hR.val 1 63 (by kernel_rfl) (by kernel_rfl)
          obtain rfl : v63 = (.int .i64 q) := q63
          obtain ⟨v64, e64, _, q64⟩ := hR.val 2 64 (by kernel_rfl) (by kernel_rfl)
          obtain rfl : v64 = (.int .i64 (k : Int)) := q64
          rw [if_pos (wanted_none rfl)]
          have hB := hR.bel
          clear hR
          go_simp
          exact hK _ _ (belowSame _) rfl
        refine steps_cons rfl ?_ ?_
        · intro a w hR K hK
          have e0 : a.tmps.getD 0 undef = (.pointer (some ⟨g, 0, none⟩)) := hR.old 0 (by kernel_rfl) rfl
          rw [if_pos (wanted_none rfl)]
          have hB := hR.bel
          clear hR
          go_simp
          exact hK _ _ (belowSame _) rfl
        refine steps_cons rfl ?_ ?_
        · intro a w hR K hK
          obtain ⟨v66, e66, _, q66⟩ := hR.val 4 66 (by kernel_rfl) (by kernel_rfl)
          obtain rfl : v66 = (.pointer (some ⟨g, 0, none⟩)) := q66
          rw [if_pos (wanted_none rfl)]
          have hB := hR.bel
          clear hR
          go_simp
          exact hK _ _ (belowSame _) rfl
        refine steps_cons rfl ?_ ?_
        · intro a w hR K hK
          obtain ⟨v67, e67, _, q67⟩ := hR.val 5 67 (by kernel_rfl) (by kernel_rfl)
          obtain rfl : v67 = (.pointer (some ⟨g, 0, none⟩)) := q67
          rw [if_pos (wanted_none rfl)]
          have hB := hR.bel
          clear hR
          go_simp
          exact hK _ _ (belowSame _) rfl
        refine steps_cons rfl ?_ ?_
        · intro a w hR K hK
          obtain ⟨v68, e68, _, q68⟩ := hR.val 6 68 (by kernel_rfl) (by kernel_rfl)
          obtain rfl : v68 = (.pointer (some ⟨g, 2, none⟩)) := q68
          rw [if_pos (wanted_none rfl)]
          have hc := (hR.bel.cell (p := ⟨g, 2, none⟩) HLT.out).trans HC2.out
          clear hR
          go_simp
          exact hK _ _ (belowSame _) rfl
        refine steps_cons rfl ?_ ?_
        · intro a w hR K hK
          have e4 : a.tmps.getD 4 undef = (.string b) := hR.old 4 (by kernel_rfl) rfl
          rw [if_pos (wanted_none rfl)]
          have hB := hR.bel
          clear hR
          go_simp
          exact hK _ _ (belowSame _) rfl
        refine steps_cons rfl ?_ ?_
        · intro a w hR K hK
          have e14 : a.tmps.getD 14 undef = (.int .i64 (k : Int)) := hR.old 14 (by kernel_rfl) rfl
          rw [if_pos (wanted_none rfl)]
          have hB := hR.bel
          clear hR
          go_simp
          exact hK _ _ (belowSame _) rfl
        refine steps_cons rfl ?_ ?_
        · intro a w hR K hK
          obtain ⟨v71, e71, _, q71⟩ := hR.val 9 71 (by kernel_rfl) (by kernel_rfl)
          obtain rfl : v71 = (.int .i64 (k : Int)) := q71
          rw [if_pos (wanted_none rfl)]
          have hB := hR.bel
          clear hR
          go_simp
          exact hK _ _ (belowSame _) rfl
        refine steps_cons rfl ?_ ?_
        · intro a w hR K hK
          have e14 : a.tmps.getD 14 undef = (.int .i64 (k : Int)) := hR.old 14 (by kernel_rfl) rfl
          rw [if_pos (wanted_none rfl)]
          have hB := hR.bel
          clear hR
          go_simp
          exact hK _ _ (belowSame _) rfl
        refine steps_cons rfl ?_ ?_
        · intro a w hR K hK
          obtain ⟨v73, e73, _, q73⟩ := hR.val 11 73 (by kernel_rfl) (by kernel_rfl)
          obtain rfl : v73 = (.int .i64 (k : Int)) := q73
          rw [if_pos (wanted_none rfl)]
          have hB := hR.bel
          clear hR
          go_simp
          exact hK _ _ (belowSame _) rfl
        refine steps_cons rfl ?_ ?_
        · intro a w hR K hK
          obtain ⟨v74, e74, _, q74⟩ := hR.val 12 74 (by kernel_rfl) (by kernel_rfl)
          obtain rfl : v74 = (.int .i64 ((k : Int) + 1)) := q74
          rw [if_pos (wanted_none rfl)]
          have hB := hR.bel
          clear hR
          go_simp
          exact hK _ _ (belowSame _) rfl
        refine steps_cons rfl ?_ ?_
        · intro a w hR K hK
          obtain ⟨v70, e70, _, q70⟩ := hR.val 8 70 (by kernel_rfl) (by kernel_rfl)
          obtain rfl : v70 = (.string b) := q70
          obtain ⟨v72, e72, _, q72⟩ := hR.val 10 72 (by kernel_rfl) (by kernel_rfl)
          obtain rfl : v72 = (.int .i64 ((k : Int) * 64)) := q72
          obtain ⟨v75, e75, _, q75⟩ := hR.val 13 75 (by kernel_rfl) (by kernel_rfl)
          obtain rfl : v75 = (.int .i64 (((k : Int) + 1) * 64)) := q75
          rw [if_pos (wanted_none rfl)]
          have hB := hR.bel
          clear hR
          go_simp
          exact hK _ _ (belowSame _) rfl
        refine steps_cons rfl ?_ ?_
        · intro a w hR K hK
          obtain ⟨v76, e76, _, q76⟩ := hR.val 14 76 (by kernel_rfl) (by kernel_rfl)
          obtain rfl : v76 = (.string (sect b k)) := q76
          rw [if_pos (wanted_none rfl)]
          have hB := hR.bel
          clear hR
          go_simp
          refine (strClone_any _ _ HSZ.out).mono ?_
          rintro e w' ⟨rfl, hw⟩
          exact hK _ _ (by first | exact belowOfEq hw | exact hw) rfl
        refine steps_cons rfl ?_ ?_
        · intro a w hR K hK
          obtain ⟨v62, e62, _, q62⟩ := hR.val 0 62 (by kernel_rfl) (by kernel_rfl)
          obtain rfl : v62 = (.int .i64 n) := q62
          obtain ⟨v65, e65, _, q65⟩ := hR.val 3 65 (by kernel_rfl) (by kernel_rfl)
          obtain rfl : v65 = (.int .i64 (q + (k : Int))) := q65
          obtain ⟨v69, e69, _, q69⟩ := hR.val 7 69 (by kernel_rfl) (by kernel_rfl)
          obtain rfl : v69 = (.int .i64 ((s : Int) + 1)) := q69
          obtain ⟨v77, e77, _, q77⟩ := hR.val 15 77 (by kernel_rfl) (by kernel_rfl)
          obtain rfl : v77 = (.string (sect b k)) := q77
          rw [if_pos (wanted_none rfl)]
          have hB := hR.bel
          clear hR
          go_simp
          exact hK _ _ (belowSame _) rfl
        refine steps_cons rfl ?_ ?_
        · intro a w hR K hK
          rw [if_pos (wanted_none rfl)]
          have hs := hR.bel.size
          clear hR
          go_simp
          exact hK _ _ (belowNew (belowSame _) _) ⟨_, rfl, Blk.new _ _ _, hs⟩
        exact steps_nil
      · intro a w' hR K hK
        obtain ⟨v15, e15, _, q15⟩ := hR.val 17 15 (by decide) (by kernel_rfl)
        obtain ⟨v78, e78, _, q78⟩ := hR.val 16 78 (by decide) (by kernel_rfl)
        obtain rfl : v78 = (.agg #[.int .i64 n, .int .i64 (q + (k : Int)), .int .i64 ((s : Int) + 1), .string (sect b k)]) := q78
        rw [if_pos (wanted_none rfl)]
        obtain ⟨x15, rfl, b15, hx15⟩ := q15
        have f0 := b15.frozen 0
        have f1 := b15.frozen 1
        have f2 := b15.frozen 2
        have f3 := b15.frozen 3
        have d0 := b15.cell 0
        have d1 := b15.cell 1
        have d2 := b15.cell 2
        have d3 := b15.cell 3
        have hB := belowUndrew hR.bel
        have hf := hR.frame
        rw [show dsts _ = [62, 63, 64, 65, 66, 67, 68, 69, 70, 71, 72, 73, 74, 75, 76, 77, 78, 15] from by kernel_rfl] at hf
        obtain ⟨z62, h62⟩ : ∃ z, a.tmps.getD 62 undef = z := ⟨_, rfl⟩
        obtain ⟨z63, h63⟩ : ∃ z, a.tmps.getD 63 undef = z := ⟨_, rfl⟩
        obtain ⟨z64, h64⟩ : ∃ z, a.tmps.getD 64 undef = z := ⟨_, rfl⟩
        obtain ⟨z65, h65⟩ : ∃ z, a.tmps.getD 65 undef = z := ⟨_, rfl⟩
        obtain ⟨z66, h66⟩ : ∃ z, a.tmps.getD 66 undef = z := ⟨_, rfl⟩
        obtain ⟨z67, h67⟩ : ∃ z, a.tmps.getD 67 undef = z := ⟨_, rfl⟩
        obtain ⟨z68, h68⟩ : ∃ z, a.tmps.getD 68 undef = z := ⟨_, rfl⟩
        obtain ⟨z69, h69⟩ : ∃ z, a.tmps.getD 69 undef = z := ⟨_, rfl⟩
        obtain ⟨z70, h70⟩ : ∃ z, a.tmps.getD 70 undef = z := ⟨_, rfl⟩
        obtain ⟨z71, h71⟩ : ∃ z, a.tmps.getD 71 undef = z := ⟨_, rfl⟩
        obtain ⟨z72, h72⟩ : ∃ z, a.tmps.getD 72 undef = z := ⟨_, rfl⟩
        obtain ⟨z73, h73⟩ : ∃ z, a.tmps.getD 73 undef = z := ⟨_, rfl⟩
        obtain ⟨z74, h74⟩ : ∃ z, a.tmps.getD 74 undef = z := ⟨_, rfl⟩
        obtain ⟨z75, h75⟩ : ∃ z, a.tmps.getD 75 undef = z := ⟨_, rfl⟩
        obtain ⟨z76, h76⟩ : ∃ z, a.tmps.getD 76 undef = z := ⟨_, rfl⟩
        obtain ⟨z77, h77⟩ : ∃ z, a.tmps.getD 77 undef = z := ⟨_, rfl⟩
        simp only [List.foldl_cons, List.foldl_nil, h62, h63, h64, h65, h66, h67, h68, h69, h70, h71, h72, h73, h74, h75, h76, h77, e15, e78] at hf
        simp only [List.setIfInBounds_toArray, List.set_cons_zero, List.set_cons_succ] at hf
        clear hR h62 h63 h64 h65 h66 h67 h68 h69 h70 h71 h72 h73 h74 h75 h76 h77
        go_simp
        refine hK _ _ ?_
        clear hK K e15 e78
        subst hf
        have hB2 : Below W1.heap.size W1 ((((w'.setCell ⟨x15, 0, none⟩ (.int .i64 n)).setCell ⟨x15, 1, none⟩ (.int .i64 (q + (k : Int)))).setCell ⟨x15, 2, none⟩ (.int .i64 ((s : Int) + 1))).setCell ⟨x15, 3, none⟩ (.string (sect b k))) :=
          (((hB.setCell (p := ⟨x15, 0, none⟩) hx15 _).setCell (p := ⟨x15, 1, none⟩) hx15 _).setCell (p := ⟨x15, 2, none⟩) hx15 _).setCell (p := ⟨x15, 3, none⟩) hx15 _
        have hbx : Blk ((((w'.setCell ⟨x15, 0, none⟩ (.int .i64 n)).setCell ⟨x15, 1, none⟩ (.int .i64 (q + (k : Int)))).setCell ⟨x15, 2, none⟩ (.int .i64 ((s : Int) + 1))).setCell ⟨x15, 3, none⟩ (.string (sect b k))) x15 TW #[.int .i64 n, .int .i64 (q + (k : Int)), .int .i64 ((s : Int) + 1), .string (sect b k)] := (((b15.set_ 0 _).set_ 1 _).set_ 2 _).set_ 3 _
        clear hB b15 f0 f1 f2 f3 d0 d1 d2 d3
        generalize ((((w'.setCell ⟨x15, 0, none⟩ (.int .i64 n)).setCell ⟨x15, 1, none⟩ (.int .i64 (q + (k : Int)))).setCell ⟨x15, 2, none⟩ (.int .i64 ((s : Int) + 1))).setCell ⟨x15, 3, none⟩ (.string (sect b k))) = W2 at hB2 hbx ⊢
        have g3 : W2.cell? ⟨g, 3, none⟩ = some (.map (some p2.nb)) := (HB1.out.below hB2 HLT.out).cell 3
        have y1 := hbx.cell 1
        have y3 := hbx.cell 3
        have HM2 := Lib.hid (HMM.out.keeps (Keeps.of_below hB2 (fun _ => False)) id)
        have HB2 := Lib.hid hB2
        have HBX := Lib.hid hbx
        clear hB2 hbx
        go_wp2_with fail
        go_still_tail 8, (by kernel_rfl)
        go_wp2_with (at_mapUpdate; refine wp_store _ rfl _ _ _ 90 rfl TI 9 underI underN p2.nb mm _ rfl (show MapAt scode Tryz.prog TI _ p2.nb mm _ from HM2.out.drew) (by unfold maxLen; omega) (q + (k : Int)) (sect b k) rfl HWQ.out rfl ?_; intro W3 hm3 hg3; have HM3 := Lib.hid hm3; have HG3 := Lib.hid (show W2.drew.grownBy W3 (some p2.nb) from hg3); clear hm3 hg3)
        go_frame
        obtain ⟨len, hlen⟩ : ∃ len, (manyK D1 n q b k).waits.length = len := ⟨_, rfl⟩
        have hk3 : Keeps (fun k => k = p2.nb) W1 W3 := ((Keeps.of_below HB2.out (fun k => k = p2.nb)).drew).grown HG3.out (fun k e _ => by injection e with e; exact e.symm)
        have hgn := HH.out.neGN
        have hb3 := HB1.out.keeps hk3 (fun e => hgn e.symm)
        have c5 : W3.cell? ⟨g, 5, none⟩ = some (.slice p2.wa len p2.wc) := by rw [← hlen]; exact hb3.cell 5
        have f5 : W3.frozen? ⟨g, 5, none⟩ = false := hb3.frozen 5
        have hxn : x15 ≠ p2.nb := by have h1 := HMM.out.lt; omega
        have hbx3 : Blk W3 x15 TW _ := HBX.out.drew.grown HG3.out (by intro e; injection e with e; exact hxn e)
        have y0 := hbx3.cell 0
        have y1 := hbx3.cell 1
        have y2 := hbx3.cell 2
        have y3 := hbx3.cell 3
        have hown : W3.ownsRow B TW 4 (.slice p2.wa len p2.wc) len ((manyK D1 n q b k).waits.flatMap wval) := by
          rw [← hlen]
          refine own_keeps (own_keeps HH.out.waits (HW1.out ▸ keep1 wr g 2 _) (fun k hk e => ?_)) hk3 (fun k hk e => ?_)
          · exact (HH.out.neW k (by rw [own_blk] at hk; exact hk)).1 e
          · exact (HH.out.neW k (by rw [own_blk] at hk; exact hk)).2.1 e
        have hlenN : len ≤ N + k := by rw [← hlen]; obtain ⟨nl, h1, _⟩ := HH.out.lasts; omega
        have hBg : B ≤ g := HH.out.geg
        have hgW : g < W3.heap.size := hb3.lt
        have O3 := Lib.hid (own_keeps (w' := W3.drew.alloc (.cells #[.int .i64 n, .int .i64 (q + (k : Int)), .int .i64 ((s : Int) + 1), .string (sect b k)] 147)) hown (((Keeps.refl (fun _ => False) W3).drew).alloc _) (fun _ _ h => h))
        have L3 := Lib.hid (show Lies (W3.drew.alloc (.cells #[.int .i64 n, .int .i64 (q + (k : Int)), .int .i64 ((s : Int) + 1), .string (sect b k)] 147)) 4 (some ⟨W3.heap.size, 0, none⟩) 1 (wval ⟨n, q + (k : Int), (s : Int) + 1, sect b k⟩) from lies_one W3.drew ⟨n, q + (k : Int), (s : Int) + 1, sect b k⟩)
        have hfin : ∀ (W4 : World) (a4 : Option Addr) (c4 : Nat), W4.ownsRow B TW 4 (.slice a4 (len + 1) c4) (len + 1) ((manyK D1 n q b k).waits.flatMap wval ++ wval ⟨n, q + (k : Int), (s : Int) + 1, sect b k⟩) →
            (W3.drew.alloc (.cells #[.int .i64 n, .int .i64 (q + (k : Int)), .int .i64 ((s : Int) + 1), .string (sect b k)] 147)).grownBy W4 (Value.slice p2.wa 0 0).ownBlock →
            ((Value.slice a4 0 0).ownBlock = (Value.slice p2.wa 0 0).ownBlock ∨ (Value.slice a4 0 0).ownBlock = some (W3.drew.alloc (.cells #[.int .i64 n, .int .i64 (q + (k : Int)), .int .i64 ((s : Int) + 1), .string (sect b k)] 147)).heap.size) →
            W4.frozen? ⟨g, 5, none⟩ = false ∧ W4.cell? ⟨g, 5, none⟩ = some (.slice p2.wa len p2.wc) ∧ Hid (DiskOut w1 B g p1 (N + (k + 1)) (manyK D1 n q b (k + 1)) (W4.setCell ⟨g, 5, none⟩ (.slice a4 (len + 1) c4))) := by
          intro W4 a4 c4 ho hg4 hat
          have := one_end (B := B) (m := mm) HH.out n (q + (k : Int)) (sect b k) HSC.out (by omega) (by rw [HSEQ.out]; exact HW1.out) HB2.out hmm1 HM3.out HG3.out (o := .cells #[.int .i64 n, .int .i64 (q + (k : Int)), .int .i64 ((s : Int) + 1), .string (sect b k)] 147) (W4 := W4) (a4 := a4) (c4 := c4) (by rw [hlen]; unfold oneW; rw [HSEQ.out]; exact ho) hg4 hat
          rw [hlen] at this
          obtain ⟨h5, h6, h7⟩ := this
          exact ⟨h5, h6, Lib.hid (DiskOut.comp HKC.out.1 HKC.out.2.1 HKC.out.2.2 h7)⟩
        have HF := Lib.hid hfin
        have hW3B : B ≤ (W3.drew.alloc (.cells #[.int .i64 n, .int .i64 (q + (k : Int)), .int .i64 ((s : Int) + 1), .string (sect b k)] 147)).heap.size := by
          have : (W3.drew.alloc (.cells #[.int .i64 n, .int .i64 (q + (k : Int)), .int .i64 ((s : Int) + 1), .string (sect b k)] 147)).heap.size = W3.heap.size + 1 := Array.size_push _
          omega
        clear hfin hown hb3 hbx3 hk3 hlen hgn hmm1 hst
        go_region_law (refine step_append_lie _ rfl (.tmp 91) (.tmp 93) 92 rfl B TW i0 _ 4 40 Tryz.underlying92 hi hz0 hz1 hz2 rfl (by decide) p2.wa len p2.wc _ (by go_simp) O3.out (some ⟨W3.heap.size, 0, none⟩) 1 1 _ (by go_simp) L3.out (wval_one _) (by unfold maxLen; omega) (by omega) hW3B ?_; intro a4 c4 W4 ho4 hg4 hat4; obtain ⟨f6, d6, R4⟩ := HF.out W4 a4 c4 ho4 hg4 hat4; clear ho4 hg4 hat4)
        all_goals
          go_wp2_with fail
          go_roundw
          case rel => exact ⟨k + 1, by omega, by go_num, R4⟩
          case measure => simp [intOf]; omega

    · obtain rfl : k = c := by omega
      go_wp2
      go_ret
      exact ⟨rfl, HR.out⟩
/-- Write, its ways that are no rounds: where it refuses, or the power goes. -/
theorem write_no (h : DiskAt w B g p N D) (n e q : Int) (b : ByteArray) (hsz : b.size ≤ 1000000) (hN : N ≤ 100000000) (hno : ¬ (mayK D n = 0 ∧ argB b = true ∧ admK D n e = 0 ∧ thereK D q ((b.size / 64 : Nat) : Int) = true ∧ goesB D = false)) :
    Calls Tryz.prog 75 #[.pointer (some ⟨g, 0, none⟩), .int .i64 n, .int .u64 e, .int .i64 q, .string b] w fun e' w' => e' = .returned (.int .i64 (writeE D n e q b)) ∧ DiskOut w B g p N (writeK D n e q b) w' := by
  have km := may_any h n
  have hq : (b.size : Int).tdiv 64 = ((b.size / 64 : Nat) : Int) := by rw [Int.tdiv_eq_ediv_of_nonneg (by omega)]; omega
  have hm : (b.size : Int).tmod 64 = ((b.size % 64 : Nat) : Int) := by rw [Int.tmod_eq_emod_of_nonneg (by omega)]; omega
  by_cases hm0 : mayK D n = 0
  · rw [hm0] at km
    have hin := may_in hm0
    by_cases ha : argB b = true
    · have hB : 64 ≤ b.size ∧ b.size / 64 ≤ 16 ∧ b.size % 64 = 0 := by unfold argB at ha; simp at ha; omega
      rw [hB.2.2] at hm
      obtain ⟨c, hc⟩ : ∃ c, b.size / 64 = c := ⟨_, rfl⟩
      have hbs : b.size = c * 64 := by omega
      rw [hc] at hq hno
      have hc1 : 1 ≤ c := by omega
      have hc2 : c ≤ 16 := by omega
      have kd := admits_any h n e hin
      by_cases hd : admK D n e = 0
      · rw [hd] at kd
        have kt := there_any h q ((c : Nat) : Int)
        cases ht : thereK D q ((c : Nat) : Int)
        · have r1 : writeE D n e q b = 30 := by unfold writeE; rw [if_pos hm0, if_pos ha, if_pos hd, hc, ht]; rfl
          have r2 : writeK D n e q b = D := by unfold writeK; rw [hc, if_neg (fun x => by rw [ht] at x; exact absurd x.2.2.2 (by decide))]
          rw [r1, r2]
          rw [ht] at kt
          have H := Lib.hid h.out
          clear h r1 r2 hno hd ha hB hc hm0 ht
          go_enter Tryz.func75, Tryz.ntmps75
          go_wp2_with (first
            | (go_at_call 64; refine km.mono ?_; rintro e w0 ⟨rfl, rfl⟩)
            | (go_at_call 81; refine kd.mono ?_; rintro e w0 ⟨rfl, rfl⟩)
            | (go_at_call 86; refine kt.mono ?_; rintro e w0 ⟨rfl, rfl⟩))
          go_ret
          exact ⟨rfl, H.out⟩
        · have kg := goes_any h (by omega)
          cases hg : goesB D
          · exact absurd ⟨hm0, ha, hd, ht, hg⟩ hno
          · have r1 : writeE D n e q b = 14 := by unfold writeE; rw [if_pos hm0, if_pos ha, if_pos hd, hc, ht, hg]; rfl
            have r2 : writeK D n e q b = goesK D := by unfold writeK; rw [hc, if_pos ⟨hm0, ha, hd, ht⟩, hg]; rfl
            rw [r1, r2]
            rw [ht] at kt
            rw [hg] at kg
            clear h r1 r2 hno hd ha hB hc hm0 ht hg
            go_enter Tryz.func75, Tryz.ntmps75
            go_wp2_with (first
              | (go_at_call 64; refine km.mono ?_; rintro e w0 ⟨rfl, rfl⟩)
              | (go_at_call 81; refine kd.mono ?_; rintro e w0 ⟨rfl, rfl⟩)
              | (go_at_call 86; refine kt.mono ?_; rintro e w0 ⟨rfl, rfl⟩)
              | (go_at_call 65; refine kg.mono ?_; rintro e w1 ⟨rfl, ho⟩; have HO := Lib.hid ho; clear ho kg))
            go_ret
            exact ⟨rfl, HO.out⟩
      · have ha' : admK D n e = 34 := by unfold admK at hd ⊢; split at hd <;> simp_all
        have r1 : writeE D n e q b = 34 := by unfold writeE; rw [if_pos hm0, if_pos ha, if_neg hd]
        have r2 : writeK D n e q b = D := by unfold writeK; rw [if_neg (fun x => hd x.2.2.1)]
        rw [r1, r2]
        rw [ha'] at kd
        have H := Lib.hid h.out
        clear h r1 r2 hno hd ha hB hc hm0 ha'
        go_enter Tryz.func75, Tryz.ntmps75
        go_wp2_with (first
          | (go_at_call 64; refine km.mono ?_; rintro e w0 ⟨rfl, rfl⟩)
          | (go_at_call 81; refine kd.mono ?_; rintro e w0 ⟨rfl, rfl⟩))
        go_ret
        exact ⟨rfl, H.out⟩
    · have r1 : writeE D n e q b = 1 := by unfold writeE; rw [if_pos hm0, if_neg ha]
      have r2 : writeK D n e q b = D := by unfold writeK; rw [if_neg (fun x => ha x.2.1)]
      rw [r1, r2]
      have hcs : b.size / 64 < 1 ∨ (1 ≤ b.size / 64 ∧ 16 < b.size / 64) ∨ (1 ≤ b.size / 64 ∧ b.size / 64 ≤ 16 ∧ b.size % 64 ≠ 0) := by unfold argB at ha; simp at ha; omega
      obtain ⟨c, hc⟩ : ∃ c, b.size / 64 = c := ⟨_, rfl⟩
      obtain ⟨m, hmm⟩ : ∃ m, b.size % 64 = m := ⟨_, rfl⟩
      have hcb : c ≤ 1000000 := by omega
      have hcb2 : (c : Int) ≤ 1000000 := by omega
      rw [hc] at hq hcs
      rw [hmm] at hm hcs
      have H := Lib.hid h.out
      clear h r1 r2 hno ha hc hmm hm0
      rcases hcs with h1 | ⟨h1, h2⟩ | ⟨h1, h2, h3⟩
      · have b1 : decide ((c : Int) < 1) = true := by simp; omega
        go_enter Tryz.func75, Tryz.ntmps75
        go_wp2_with (go_at_call 64; refine km.mono ?_; rintro e w0 ⟨rfl, rfl⟩)
        go_ret
        exact ⟨rfl, H.out⟩
      · have b1 : decide ((c : Int) < 1) = false := by simp; omega
        have b2 : decide (16 < (c : Int)) = true := by simp; omega
        go_enter Tryz.func75, Tryz.ntmps75
        go_wp2_with (go_at_call 64; refine km.mono ?_; rintro e w0 ⟨rfl, rfl⟩)
        go_ret
        exact ⟨rfl, H.out⟩
      · have b1 : decide ((c : Int) < 1) = false := by simp; omega
        have b2 : decide (16 < (c : Int)) = false := by simp; omega
        have b3 : ((m : Int) != 0) = true := by simp; omega
        go_enter Tryz.func75, Tryz.ntmps75
        go_wp2_with (go_at_call 64; refine km.mono ?_; rintro e w0 ⟨rfl, rfl⟩)
        go_ret
        exact ⟨rfl, H.out⟩
  · have r1 : writeE D n e q b = mayK D n := by unfold writeE; rw [if_neg hm0]
    have r2 : writeK D n e q b = D := by unfold writeK; rw [if_neg (fun x => hm0 x.1)]
    rw [r1, r2]
    obtain ⟨v, hv⟩ : ∃ v, mayK D n = v := ⟨_, rfl⟩
    rw [hv] at km hm0 ⊢
    have b1 : (v != 0) = true := by simpa using hm0
    have H := Lib.hid h.out
    clear r1 r2 hm0 h hv hno hm hq
    go_enter Tryz.func75, Tryz.ntmps75
    go_wp2_with (go_at_call 64; refine km.mono ?_; rintro e w0 ⟨rfl, rfl⟩)
    go_ret
    exact ⟨rfl, H.out⟩
/-- A disk's goes that does not take the power. -/
theorem goes_on (h : DiskAt w B g p N D) (hN : N ≤ 100000000) (hg : goesB D = false) : ∃ w1, Calls Tryz.prog 65 #[.pointer (some ⟨g, 0, none⟩)] w (fun e' w' => e' = .returned (.bool false) ∧ w1 = w') ∧ DiskOut w B g p N (goesK D) w1 := by
  have c9 : w.cell? ⟨g, 41, none⟩ = some (.bool D.armed) := h.blk.cell 41
  have c10 : w.cell? ⟨g, 42, none⟩ = some (.int .i64 D.left) := h.blk.cell 42
  have f10 : w.frozen? ⟨g, 42, none⟩ = false := h.blk.frozen 42
  have hle := h.sane.left
  cases ha : D.armed
  · have h2 : goesK D = D := by unfold goesK; rw [ha]; rfl
    rw [h2]
    refine ⟨w, ?_, h.out⟩
    rw [ha] at c9
    clear h h2 ha hg
    go_enter Tryz.func65, Tryz.ntmps65
    go_wp2
    go_ret
    exact ⟨rfl, rfl⟩
  · have hl : 0 < D.left := by unfold goesB at hg; rw [ha] at hg; simpa using hg
    have h2 : goesK D = { D with left := D.left - 1 } := by unfold goesK; rw [ha]; simp [hl]
    have b1 : decide (0 < D.left) = true := by simpa using hl
    have e1 : IntKind.i64.wrap (D.left - 1) = D.left - 1 := IntWalk.i64_in _ (by omega)
    rw [h2]
    rw [ha] at c9
    have ho : DiskOut w B g p N { D with left := D.left - 1 } (w.setCell ⟨g, 42, none⟩ (.int .i64 (D.left - 1))) :=
      h.turnOut (keep1 w g 42 _) (h.blk.set_ 42 _) rfl rfl rfl rfl h.seq ⟨h.sane.room, h.sane.now, h.sane.lasts, h.sane.waits, by show D.left - 1 ≤ _; omega⟩
    refine ⟨_, ?_, ho⟩
    clear h h2 ha ho hg
    go_enter Tryz.func65, Tryz.ntmps65
    go_wp2
    go_ret
    exact ⟨rfl, rfl⟩
theorem write_any (h : DiskAt w B g p N D) (n e q : Int) (b : ByteArray) (hsz : b.size ≤ 1000000) (hN : N ≤ 10000000) :
    Calls Tryz.prog 75 #[.pointer (some ⟨g, 0, none⟩), .int .i64 n, .int .u64 e, .int .i64 q, .string b] w fun e' w' => e' = .returned (.int .i64 (writeE D n e q b)) ∧ DiskOut w B g p (N + 16) (writeK D n e q b) w' := by
  by_cases hy : mayK D n = 0 ∧ argB b = true ∧ admK D n e = 0 ∧ thereK D q ((b.size / 64 : Nat) : Int) = true ∧ goesB D = false
  · obtain ⟨h1, h2, h3, h4, h5⟩ := hy
    obtain ⟨w1, kg, ho⟩ := goes_on h (by omega) h5
    obtain ⟨p1, d1, k1, g1, s1⟩ := ho
    have km := may_any h n
    have ka := admits_any h n e (may_in h1)
    have kt := there_any h q ((b.size / 64 : Nat) : Int)
    rw [h1] at km
    rw [h3] at ka
    rw [h4] at kt
    have hB : 64 ≤ b.size ∧ b.size / 64 ≤ 16 ∧ b.size % 64 = 0 := by unfold argB at h2; simp at h2; omega
    have hr := h.sane.room
    have hq : 0 ≤ q ∧ q + ((b.size / 64 : Nat) : Int) ≤ 20000 := by unfold thereK at h4; simp at h4; omega
    have r1 : writeE D n e q b = 0 := by unfold writeE; rw [if_pos h1, if_pos h2, if_pos h3, h4, h5]; rfl
    have r2 : writeK D n e q b = manyK (goesK D) n q b (b.size / 64) := by unfold writeK; rw [if_pos ⟨h1, h2, h3, h4⟩, h5]; rfl
    rw [r1, r2]
    refine (write_rounds d1 n e q b (by omega) km ka kt kg hB.1 hB.2.1 hB.2.2 hq).mono fun e' w' ⟨he, ho⟩ => ⟨he, ?_⟩
    exact (DiskOut.comp k1 g1 s1 ho).mono (by omega)
  · exact (write_no h n e q b hsz (by omega) hy).mono fun e' w' ⟨he, ho⟩ => ⟨he, ho.mono (by omega)⟩
end
end Go.Proofs.YtakilnpfhljgfaaGreat.DK

/- The disk: Read. No condition. -/
namespace Go.Proofs.YtakilnpfhljgfaaGreat.DK
set_option maxRecDepth 100000
open Go.RowKit Go.Proofs.YtakilnpfhljgfaaGreat.MI
set_option linter.unusedVariables false
set_option linter.unusedSimpArgs false

theorem strBytes (s : ByteArray) : Lib.strCells s = Lib.byteCells s.data.toList := rfl
theorem byte_append (a b : List UInt8) : Lib.byteCells a ++ Lib.byteCells b = Lib.byteCells (a ++ b) := by simp [Lib.byteCells]
theorem readS_len {D : Dk} (h : Sane D) (a : Int) (k : Nat) : (readS D a k).length = 64 * k := by
  induction k with
  | zero => rfl
  | succ k ih =>
    unfold readS
    rw [List.length_append, ih]
    have : ((D.now (a + (k : Int))).getD zsec).data.toList.length = 64 := by
      cases hd : D.now (a + (k : Int)) with
      | none => rfl
      | some s => have := h.now _ s hd; simpa using this
    omega
section
variable {w w' : World} {B g N : Nat} {p : Pl} {D : Dk}
structure ReadRel (D : Dk) (a : Int) (w : World) (k : Nat) (wr : World) : Prop where
  b : Lib.IsBuilder 121 5 w.heap.size w.heap.size (Lib.byteCells (readS D a k)) wr
  bel : Below w.heap.size w wr
theorem ReadRel.step {wr w1 w2 : World} {a : Int} {k : Nat} {s : ByteArray} (h : ReadRel D a w k wr) (hs : s = (D.now (a + (k : Int))).getD zsec) (hb1 : Below w.heap.size wr w1)
    (hb : Lib.BuilderAt 121 5 w.heap.size w.heap.size (.pointer (some ⟨w.heap.size, 0, none⟩)) (Lib.byteCells (readS D a k) ++ Lib.strCells s) w2) (h2 : Below w.heap.size w1 w2) : ReadRel D a w (k + 1) w2 := by
  refine ⟨.inr ?_, (h.bel.trans hb1).trans h2⟩
  have e : readS D a (k + 1) = readS D a k ++ s.data.toList := by rw [hs]; rfl
  rw [e, ← byte_append, ← strBytes]
  exact hb
theorem builder_below {T e : TypeId} {B b : Nat} {bs : List Value} {w w' : World} (h : Lib.IsBuilder T e B b bs w) (hb : Below w.heap.size w w') : Lib.IsBuilder T e B b bs w' := by
  have one : ∀ p, Lib.BuilderAt T e B b p bs w → Lib.BuilderAt T e B b p bs w' := fun p h => by
    have hlt := Lib.BuilderAt.lt h
    obtain ⟨hB, v, h1, h2, h3⟩ := h
    exact ⟨hB, v, (hb.block b hlt).trans h1, own_keeps h2 (Keeps.of_below hb (fun _ => False)) (fun _ _ h => h), h3⟩
  exact h.imp (one _) (one _)
set_option maxHeartbeats 2000000 in
theorem read_ok (h : DiskAt w B g p N D) (hon : D.on = true) (a : Int) (n : Nat) (hr : readB D a (n : Int) = true) :
    Calls Tryz.prog 62 #[.pointer (some ⟨g, 0, none⟩), .int .i64 a, .int .i64 (n : Int)] w fun e w' => e = .returned (.tuple #[.string ⟨(readS D a n).toArray⟩, .int .i64 0]) ∧ Below w.heap.size w w' := by
  have ko := on_any h
  have kt := there_any h a (n : Int)
  have hT : thereK D a (n : Int) = true := by unfold readB at hr; simp at hr; exact hr.2
  have hn : 1 ≤ n ∧ n ≤ 400 := by unfold readB at hr; simp at hr; omega
  have hroom := h.sane.room
  have ha : 0 ≤ a ∧ a + (n : Int) ≤ 20000 := by unfold thereK at hT; simp at hT; omega
  rw [hon] at ko
  rw [hT] at kt
  obtain ⟨hn1, hn2⟩ := hn
  have b1 : decide ((n : Int) < 1) = false := by simp; omega
  have b2 : decide (400 < (n : Int)) = false := by simp; omega
  have c3 : ∀ wr, Below w.heap.size w wr → wr.cell? ⟨g, 3, none⟩ = some (.map (some p.nb)) := fun wr hb => (h.old hb).blk.cell 3
  obtain ⟨q, hq, hmq⟩ := h.now
  have HM : Hid (∀ wr, Below w.heap.size w wr → MapAt scode Tryz.prog TI wr p.nb q D.now) := Lib.hid fun wr hb => hmq.keeps (Keeps.of_below hb (fun _ => False)) id
  have HS := Lib.hid h.sane
  have H0 : Hid (ReadRel D a w 0 (w.alloc (.cells #[.pointer none, .slice none 0 0] 121))) := Lib.hid ⟨Lib.fresh_isBuilder _ _ w, (Below.refl _ w).alloc (Nat.le_refl _) _⟩
  have hrep : (ByteArray.mk (Lib.repeatL (ByteArray.mk #[0]).data.toList 64).toArray) = zsec := by kernel_rfl
  have krep := fun w => Tryz.strings_Repeat (ByteArray.mk #[0]) 64 w (by omega) (by decide)
  rw [hrep] at krep
  have HC3 := Lib.hid c3
  clear h hr hT hon hmq c3 hrep
  go_enter Tryz.func62, Tryz.ntmps62
  go_wp2_with (first
    | (go_at_call 85; refine ko.mono ?_; rintro e w0 ⟨rfl, rfl⟩)
    | (go_at_call 86; refine kt.mono ?_; rintro e w0 ⟨rfl, rfl⟩))
  go_loopw [31] (fun i wr => ∃ k : Nat, k ≤ n ∧ i = .int .i64 (k : Int) ∧ Hid (ReadRel D a w0 k wr)) (fun i _ => n - (intOf i).toNat)
  case atStart => exact ⟨0, Nat.zero_le _, rfl, H0⟩
  case round =>
    obtain ⟨k, hk, rfl, HR⟩ := hrel
    have hbw := HR.out.bel
    by_cases hlt : k < n
    · have c3 := HC3.out wr hbw
      have HMR := Lib.hid (HM.out wr hbw)
      have e1 : IntKind.i64.wrap (a + (k : Int)) = a + (k : Int) := IntWalk.i64_in _ (by omega)
      have HW : Hid (WfI (a + (k : Int))) := Lib.hid (wfA ⟨by omega, by omega⟩)
      have hl := readS_len HS.out a k
      have hsz : (Lib.byteCells (readS D a k)).length + 64 ≤ 140737488355328 := by rw [Lib.byteCells_length, hl]; omega
      have hws := hbw.size
      cases hd : D.now (a + (k : Int)) with
      | none =>
        have HD := Lib.hid hd
        have hb2 := fun w1 (h1 : Below wr.heap.size wr w1) => builder_below HR.out.b h1
        have HB2 := Lib.hid hb2
        clear hbw hl hd hb2
        go_wp2_with (first
          | (at_lookup; refine wp_look_ok _ rfl _ _ 90 rfl TI 9 underI underN (ByteArray.mk #[]) (zeroS _) p.nb q D.now rfl HMR.out (a + (k : Int)) rfl HW.out ?_; rw [HD.out]; dsimp only [scode, Option.getD_none, Option.isSome_none])
          | (go_at_call 87; refine (krep wr).mono ?_; rintro e w1 ⟨rfl, hb1⟩; have kw := writeString_any w0.heap.size w0.heap.size _ zsec w1 (HB2.out w1 hb1) hsz (Nat.le_trans hws hb1.size); have HB1 := Lib.hid (hb1.mono hws); clear hb1)
          | (go_at_call 88; refine kw.mono ?_; rintro e w2 ⟨rfl, hbu, hb3⟩; have R2 := Lib.hid (HR.out.step (s := zsec) (by rw [HD.out]; rfl) HB1.out hbu hb3); clear hbu hb3 kw))
        go_roundw
        case rel => exact ⟨k + 1, by omega, by go_num, R2⟩
        case measure => simp [intOf]; omega
      | some s =>
        have HD := Lib.hid hd
        have hss := HS.out.now _ s hd
        have kw := writeString_any w0.heap.size w0.heap.size _ s wr HR.out.b (by rw [hss]; exact hsz) hws
        clear hbw hl hd hss
        go_wp2_with (first
          | (at_lookup; refine wp_look_ok _ rfl _ _ 90 rfl TI 9 underI underN (ByteArray.mk #[]) (zeroS _) p.nb q D.now rfl HMR.out (a + (k : Int)) rfl HW.out ?_; rw [HD.out]; dsimp only [scode, Option.getD_some, Option.isSome_some])
          | (go_at_call 88; refine kw.mono ?_; rintro e w2 ⟨rfl, hbu, hb3⟩; have R2 := Lib.hid (HR.out.step (s := s) (by rw [HD.out]; rfl) (Below.refl _ wr) hbu hb3); clear hbu hb3 kw))
        go_roundw
        case rel => exact ⟨k + 1, by omega, by go_num, R2⟩
        case measure => simp [intOf]; omega
    · obtain rfl : k = n := by omega
      have ks := Tryz.Builder_String_any w0.heap.size w0.heap.size (readS D a k) wr HR.out.b hbw.size
      have HBW := Lib.hid hbw
      clear hbw
      go_wp2_with (go_at_call 89; refine ks.mono ?_; rintro e w2 ⟨rfl, hb3⟩; have H3 := Lib.hid (HBW.out.trans hb3); clear hb3 ks)
      go_ret2
      exact ⟨rfl, H3.out⟩
theorem read_off (h : DiskAt w B g p N D) (a n : Int) (hno : D.on = false ∨ readB D a n = false) :
    Calls Tryz.prog 62 #[.pointer (some ⟨g, 0, none⟩), .int .i64 a, .int .i64 n] w fun e w' => e = .returned (.tuple #[.string ⟨#[]⟩, .int .i64 (if D.on then 30 else 14)]) ∧ w' = w := by
  have ko := on_any h
  have kt := there_any h a n
  cases hon : D.on
  · rw [hon] at ko
    clear h hno hon kt
    go_enter Tryz.func62, Tryz.ntmps62
    go_wp2_with (go_at_call 85; refine ko.mono ?_; rintro e w0 ⟨rfl, rfl⟩)
    go_ret2
    exact ⟨rfl, rfl⟩
  · rw [hon] at ko
    have hno' : readB D a n = false := by rcases hno with h0 | h0; rw [hon] at h0; cases h0; exact h0
    have hcs : n < 1 ∨ (1 ≤ n ∧ 400 < n) ∨ (1 ≤ n ∧ n ≤ 400 ∧ thereK D a n = false) := by
      unfold readB at hno'
      by_cases h1 : 1 ≤ n
      · by_cases h2 : n ≤ 400
        · simp [h1, h2] at hno'; exact .inr (.inr ⟨h1, h2, hno'⟩)
        · exact .inr (.inl ⟨h1, by omega⟩)
      · exact .inl (by omega)
    rcases hcs with h1 | ⟨h1, h2⟩ | ⟨h1, h2, h3⟩
    · have b1 : decide (n < 1) = true := by simpa using h1
      clear h hno hno' hon kt
      go_enter Tryz.func62, Tryz.ntmps62
      go_wp2_with (go_at_call 85; refine ko.mono ?_; rintro e w0 ⟨rfl, rfl⟩)
      go_ret2
      exact ⟨rfl, rfl⟩
    · have b1 : decide (n < 1) = false := by simp; omega
      have b2 : decide (400 < n) = true := by simpa using h2
      clear h hno hno' hon kt
      go_enter Tryz.func62, Tryz.ntmps62
      go_wp2_with (go_at_call 85; refine ko.mono ?_; rintro e w0 ⟨rfl, rfl⟩)
      go_ret2
      exact ⟨rfl, rfl⟩
    · have b1 : decide (n < 1) = false := by simp; omega
      have b2 : decide (400 < n) = false := by simpa using h2
      rw [h3] at kt
      clear h hno hno' hon h3
      go_enter Tryz.func62, Tryz.ntmps62
      go_wp2_with (first
        | (go_at_call 85; refine ko.mono ?_; rintro e w0 ⟨rfl, rfl⟩)
        | (go_at_call 86; refine kt.mono ?_; rintro e w0 ⟨rfl, rfl⟩))
      go_ret2
      exact ⟨rfl, rfl⟩
theorem read_any (h : DiskAt w B g p N D) (a n : Int) :
    Calls Tryz.prog 62 #[.pointer (some ⟨g, 0, none⟩), .int .i64 a, .int .i64 n] w fun e w' => e = .returned (.tuple #[.string (readT D a n), .int .i64 (readE D a n)]) ∧ Below w.heap.size w w' := by
  cases hon : D.on
  · have h1 : readE D a n = 14 := by unfold readE; rw [hon]; rfl
    have h2 : readT D a n = ⟨#[]⟩ := by unfold readT; rw [h1]; rfl
    rw [h1, h2]
    exact (read_off h a n (.inl hon)).mono fun e w' ⟨he, hw⟩ => ⟨by rw [he, hon]; rfl, by rw [hw]; exact Below.refl _ _⟩
  · cases hr : readB D a n
    · have h1 : readE D a n = 30 := by unfold readE; rw [hon, hr]; rfl
      have h2 : readT D a n = ⟨#[]⟩ := by unfold readT; rw [h1]; rfl
      rw [h1, h2]
      exact (read_off h a n (.inr hr)).mono fun e w' ⟨he, hw⟩ => ⟨by rw [he, hon]; rfl, by rw [hw]; exact Below.refl _ _⟩
    · have h1 : readE D a n = 0 := by unfold readE; rw [hon, hr]; rfl
      have h2 : readT D a n = ⟨(readS D a n.toNat).toArray⟩ := by unfold readT; rw [h1]; rfl
      have hn : 1 ≤ n := by unfold readB at hr; simp at hr; omega
      rw [h1, h2]
      obtain ⟨m, rfl⟩ : ∃ m : Nat, n = (m : Int) := ⟨n.toNat, by omega⟩
      exact read_ok h hon a m hr
end
end Go.Proofs.YtakilnpfhljgfaaGreat.DK

/- The disk: Waiting; texts of zeros. No condition. -/
namespace Go.Proofs.YtakilnpfhljgfaaGreat.DK
set_option maxRecDepth 100000
open Go.RowKit Go.Proofs.YtakilnpfhljgfaaGreat.MI
set_option linter.unusedVariables false
set_option linter.unusedSimpArgs false

section
variable {w w' : World} {B g N : Nat} {p : Pl} {D : Dk}
def isN (n : Int) : Wr → Bool := fun x => decide (x.n = n)
end

/-! ### texts -/
def sameT (x : UInt8) (n : Nat) : ByteArray := ⟨(List.replicate (64 * n) x).toArray⟩
theorem zsec_same : zsec = sameT 0 1 := rfl
theorem sameT_size (x : UInt8) (n : Nat) : (sameT x n).size = 64 * n := by simp [sameT, ByteArray.size]
abbrev zeroCells (k : Nat) : Array Value := madeCells (Value.int .u8 0).cells (k * 1)
theorem zeros_make (k : Nat) (hk : k ≤ 100000) (W : World) : (Instr.makeSlice 84 (.int .i64 (k : Int)) (.int .i64 (k : Int))).run Tryz.prog W = .ok (.slice (some ⟨W.heap.size, 0, none⟩) k k) (W.alloc (.cells (zeroCells k) 5)) := by
  obtain ⟨i0, hi, hz0, hz1, hz2⟩ := info_parts infB
  have hr := run_make (P := Tryz.prog) W 84 5 i0 (.int .u8 0) Tryz.underlying84 hi hz0 .i64 .i64 (k : Int) (k : Int) (by omega) (by omega) (by rw [hz2]; omega) (by omega)
  rw [hz1] at hr
  simp only [Int.toNat_natCast] at hr
  exact hr
theorem zeros_cells (k : Nat) (W : World) : Cells (W.alloc (.cells (zeroCells k) 5)) W.heap.size (List.replicate k 0) := by
  refine ⟨by simp, fun j x hx => ?_⟩
  have hb : Blk (W.alloc (.cells (zeroCells k) 5)) W.heap.size 5 (zeroCells k) := Blk.new _ _ _
  refine ⟨?_, hb.frozen j⟩
  rw [hb.cell]
  have hj : j < k := by
    rcases Nat.lt_or_ge j k with h | h
    · exact h
    · rw [List.getElem?_eq_none (by simpa using h)] at hx; cases hx
  rw [List.getElem?_replicate, if_pos hj] at hx
  injection hx with hx
  subst hx
  simp [zeroCells, madeCells, hj, Value.cells, Nat.mod_one]
theorem text_of {w : World} {g : Nat} {l : List UInt8} (h : Cells w g l) (n c : Nat) (hn : l.length = n) : (convert 84 9 (.slice (some ⟨g, 0, none⟩) n c)).run Tryz.prog w = .ok (.string ⟨l.toArray⟩) w :=
  h.str (P := Tryz.prog) 84 9 5 Tryz.underlying84 Tryz.underlying5 Tryz.underlying9 n c hn
/-- 'string(make([]byte, 64))'. -/
theorem zeros_text (W : World) : (convert 84 9 (.slice (some ⟨W.heap.size, 0, none⟩) 64 64)).run Tryz.prog (W.alloc (.cells (zeroCells 64) 5)) = .ok (.string zsec) (W.alloc (.cells (zeroCells 64) 5)) := text_of (zeros_cells 64 W) 64 64 (by simp)

/-! ### a disk of the call's own -/
/-- Block g is a disk, made since w0; nothing that stood then has turned. -/
def Own (w0 : World) (g N : Nat) (D : Dk) (W : World) : Prop := ∃ p, DiskAt W w0.heap.size g p N D ∧ Below w0.heap.size w0 W
section
variable {w0 W W' : World} {g N : Nat} {D D' : Dk}
theorem Own.bel (h : Own w0 g N D W) : Below w0.heap.size w0 W := by obtain ⟨_, _, hb⟩ := h; exact hb
theorem Own.of {p : Pl} {N' : Nat} (h : DiskAt W w0.heap.size g p N D) (hb : Below w0.heap.size w0 W) (ho : DiskOut W w0.heap.size g p N' D' W') : Own w0 g N' D' W' := by
  obtain ⟨p', h1, h2, _⟩ := ho
  exact ⟨p', h1, h2.after hb h.ge h.base⟩
theorem Own.then_ (h : Own w0 g N D W) (hb : Below W.heap.size W W') : Own w0 g N D W' := by
  obtain ⟨p, h1, h2⟩ := h
  exact ⟨p, h1.old hb, belowThen h2 hb⟩
theorem Own.alloc (h : Own w0 g N D W) (o : Obj) : Own w0 g N D (W.alloc o) := h.then_ (belowNew (belowSame _) _)
theorem Own.drew (h : Own w0 g N D W) : Own w0 g N D W.drew := h.then_ (belowDrew (belowSame _))
theorem Own.drewN (h : Own w0 g N D W) (n : Nat) : Own w0 g N D (W.drewN n) := h.then_ (belowDrewN (belowSame _) n)
theorem Own.eq (h : Own w0 g N D W) (e : D = D') : Own w0 g N D' W := e ▸ h
def OwnNew (w0 : World) (n : Nat) (e : Ending) (w' : World) : Prop := ∃ g, e = .returned (.pointer (some ⟨g, 0, none⟩)) ∧ Own w0 g 0 (newK n) w'
theorem own_new (w0 : World) (hb : Below w0.heap.size w0 W) (n : Nat) (h1 : 1 ≤ n) (hn : n ≤ 20000) : Calls Tryz.prog 26 #[.int .i64 (n : Int)] W (OwnNew w0 n) :=
  (disk_new w0 W hb n hn).mono fun e w' h => by
    obtain ⟨g, p, he, h2, h3⟩ := h.1 h1
    exact ⟨g, he, p, h2, h3⟩
theorem own_write (h : Own w0 g N D W) (n e q : Int) (b : ByteArray) (hsz : b.size ≤ 1000000) (hN : N ≤ 10000000) :
    Calls Tryz.prog 75 #[.pointer (some ⟨g, 0, none⟩), .int .i64 n, .int .u64 e, .int .i64 q, .string b] W fun e' w' => e' = .returned (.int .i64 (writeE D n e q b)) ∧ Own w0 g (N + 16) (writeK D n e q b) w' := by
  obtain ⟨p, h1, h2⟩ := h
  exact (write_any h1 n e q b hsz hN).mono fun _ _ ⟨he, ho⟩ => ⟨he, Own.of h1 h2 ho⟩
theorem own_read (h : Own w0 g N D W) (q n : Int) : Calls Tryz.prog 62 #[.pointer (some ⟨g, 0, none⟩), .int .i64 q, .int .i64 n] W fun e' w' => e' = .returned (.tuple #[.string (readT D q n), .int .i64 (readE D q n)]) ∧ Own w0 g N D w' := by
  obtain ⟨p, h1, h2⟩ := h
  exact (read_any h1 q n).mono fun _ _ ⟨he, ho⟩ => ⟨he, Own.then_ ⟨p, h1, h2⟩ ho⟩
theorem own_barrier (h : Own w0 g N D W) (n e : Int) (hN : N ≤ 10000000) : Calls Tryz.prog 48 #[.pointer (some ⟨g, 0, none⟩), .int .i64 n, .int .u64 e] W fun e' w' => e' = .returned (.int .i64 (barrierE D n e)) ∧ Own w0 g N (barrierK D n e) w' := by
  obtain ⟨p, h1, h2⟩ := h
  exact (barrier_any h1 n e (by omega)).mono fun _ _ ⟨he, ho⟩ => ⟨he, Own.of h1 h2 ho⟩
theorem own_admit (h : Own w0 g N D W) (n e : Int) (hN : N ≤ 10000000) : Calls Tryz.prog 30 #[.pointer (some ⟨g, 0, none⟩), .int .i64 n, .int .u64 e] W fun e' w' => e' = .returned (.int .i64 (admitE D n e)) ∧ Own w0 g N (admitK D n e) w' := by
  obtain ⟨p, h1, h2⟩ := h
  exact (admit_any h1 n e (by omega)).mono fun _ _ ⟨he, ho⟩ => ⟨he, Own.of h1 h2 ho⟩
theorem own_fence (h : Own w0 g N D W) (n : Int) (hN : N ≤ 10000000) : Calls Tryz.prog 58 #[.pointer (some ⟨g, 0, none⟩), .int .i64 n] W fun e' w' => e' = .returned (.int .i64 (fenceE D n)) ∧ Own w0 g N (fenceK D n) w' := by
  obtain ⟨p, h1, h2⟩ := h
  exact (fence_any h1 n (by omega)).mono fun _ _ ⟨he, ho⟩ => ⟨he, Own.of h1 h2 ho⟩
theorem own_put (h : Own w0 g N D W) (n v : Int) (hN : N ≤ 10000000) : Calls Tryz.prog 59 #[.pointer (some ⟨g, 0, none⟩), .int .i64 n, .int .u64 v] W fun e' w' => e' = .returned (.int .i64 (fenceE D n)) ∧ Own w0 g N (putK D n v) w' := by
  obtain ⟨p, h1, h2⟩ := h
  exact (put_any h1 n v (by omega)).mono fun _ _ ⟨he, ho⟩ => ⟨he, Own.of h1 h2 ho⟩
/-- Cut, with a row that came in, or was laid since. -/
theorem own_cut (h : Own w0 g N D W) (A : Option Addr) (m c : Nat) (keep : List Int) (hl : Lies W 1 A m (keep.map (Value.int .i64))) (hA : 0 < m → ∃ b off, A = some ⟨b, off, none⟩) (hfar : 0 < m → ∀ ad, A = some ad → ad.block < w0.heap.size) (hN : N ≤ 10000000) :
    Calls Tryz.prog 93 #[.pointer (some ⟨g, 0, none⟩), .slice A m c] W fun e' w' => e' = .returned (.int .i64 (cutN D : Int)) ∧ Own w0 g N (cutK D keep) w' := by
  obtain ⟨p, h1, h2⟩ := h
  exact (cut_any h1 A m c keep hl hA (fun hm ad e hk => by have := hfar hm ad e; have := h1.ge _ hk; omega) (by omega)).mono fun _ _ ⟨he, ho⟩ => ⟨he, Own.of h1 h2 ho⟩
/-- Cut, with a row that was laid just now. -/
theorem own_cut_new (h : Own w0 g N D W) (o : Obj) (m c : Nat) (keep : List Int) (hl : Lies (W.alloc o) 1 (some ⟨W.heap.size, 0, none⟩) m (keep.map (Value.int .i64))) (hN : N ≤ 10000000) :
    Calls Tryz.prog 93 #[.pointer (some ⟨g, 0, none⟩), .slice (some ⟨W.heap.size, 0, none⟩) m c] (W.alloc o) fun e' w' => e' = .returned (.int .i64 (cutN D : Int)) ∧ Own w0 g N (cutK D keep) w' := by
  obtain ⟨p, h1, h2⟩ := h
  exact (cut_any (h1.alloc o) _ m c keep hl (fun _ => ⟨_, _, rfl⟩) (fun _ ad e hk => by injection e with e; subst e; have := h1.lt _ hk; simp at this) (by omega)).mono fun _ _ ⟨he, ho⟩ => ⟨he, Own.of (h1.alloc o) (belowNew h2 o) ho⟩
/-- Cut without a row. -/
theorem own_cut_none (h : Own w0 g N D W) (hN : N ≤ 10000000) :
    Calls Tryz.prog 93 #[.pointer (some ⟨g, 0, none⟩), .slice none 0 0] W fun e' w' => e' = .returned (.int .i64 (cutN D : Int)) ∧ Own w0 g N (cutK D []) w' :=
  own_cut h none 0 0 [] Lies.nil (fun h => absurd h (by omega)) (fun _ ad e => by cases e) hN
theorem own_on (h : Own w0 g N D W) : Calls Tryz.prog 85 #[.pointer (some ⟨g, 0, none⟩)] W fun e' w' => e' = .returned (.bool D.on) ∧ w' = W := by obtain ⟨p, h1, h2⟩ := h; exact on_any h1
theorem own_last (h : Own w0 g N D W) : Calls Tryz.prog 60 #[.pointer (some ⟨g, 0, none⟩)] W fun e' w' => e' = .returned (.int .u64 D.last) ∧ w' = W := by obtain ⟨p, h1, h2⟩ := h; exact last_any h1
theorem own_arm (h : Own w0 g N D W) (n : Int) (hnl : n ≤ 9223372036854775807) (A : Option Addr) (m c : Nat) (keep : List Int) (hl : Lies W 1 A m (keep.map (Value.int .i64))) (hm : m ≤ 1000000000000) (hn : A = none → m = 0 ∧ c = 0) :
    Calls Tryz.prog 113 #[.pointer (some ⟨g, 0, none⟩), .int .i64 n, .slice A m c] W fun e' w' => e' = .returned (.tuple #[]) ∧ Own w0 g N (armK D n keep) w' := by
  obtain ⟨p, h1, h2⟩ := h
  exact (arm_any h1 n hnl A m c keep hl hm hn).mono fun _ _ ⟨he, ho⟩ => ⟨he, Own.of h1 h2 ho⟩
/-- Cut, with a row that came in. -/
theorem own_cut_row (h : Own w0 g N D W) {A : Option Addr} {m c : Nat} {z : List Int} (hr : IsRow .i64 w0 A m c z) (hN : N ≤ 10000000) :
    Calls Tryz.prog 93 #[.pointer (some ⟨g, 0, none⟩), .slice A m c] W fun e' w' => e' = .returned (.int .i64 (cutN D : Int)) ∧ Own w0 g N (cutK D (z.take m)) w' :=
  own_cut h A m c _ (hr.lies.old (by decide) h.bel) (fun h0 => by obtain ⟨b, off, e, _⟩ := hr.cells h0; exact ⟨b, off, e⟩) (fun h0 ad e => by obtain ⟨b, off, e2, h3, _⟩ := hr.cells h0; rw [e2] at e; cases e; exact h3) hN
theorem own_arm_row (h : Own w0 g N D W) (n : Int) (hnl : n ≤ 9223372036854775807) {A : Option Addr} {m c : Nat} {z : List Int} (hr : IsRow .i64 w0 A m c z) (hm : m ≤ 1000000000000) :
    Calls Tryz.prog 113 #[.pointer (some ⟨g, 0, none⟩), .int .i64 n, .slice A m c] W fun e' w' => e' = .returned (.tuple #[]) ∧ Own w0 g N (armK D n (z.take m)) w' :=
  own_arm h n hnl A m c _ (hr.lies.old (by decide) h.bel) hm (fun e => by rcases hr with ⟨_, h1, h2, _⟩ | ⟨x, h1, _⟩; exact ⟨h1, h2⟩; rw [e] at h1; cases h1)
end
end Go.Proofs.YtakilnpfhljgfaaGreat.DK

/- commonslaw8.fill: a text of one byte. No condition. -/
namespace Go.Proofs.YtakilnpfhljgfaaGreat.DK
set_option maxRecDepth 100000
open Go.RowKit Go.Proofs.YtakilnpfhljgfaaGreat.MI
set_option linter.unusedVariables false
set_option linter.unusedSimpArgs false

theorem fill_step (x : UInt8) (m k : Nat) (h : k < m) : (List.replicate k x ++ List.replicate (m - k) 0).set k x = List.replicate (k + 1) x ++ List.replicate (m - (k + 1)) 0 := by
  obtain ⟨d, rfl⟩ : ∃ d, m = k + 1 + d := ⟨m - k - 1, by omega⟩
  rw [show k + 1 + d - k = d + 1 by omega, show k + 1 + d - (k + 1) = d by omega, List.replicate_succ, List.replicate_succ']
  rw [List.set_append_right _ _ (by simp)]
  simp
def FillRel (x : UInt8) (m : Nat) (w : World) (k : Nat) (wr : World) : Prop := Cells wr w.heap.size (List.replicate k x ++ List.replicate (m - k) 0) ∧ Below w.heap.size w wr
end Go.Proofs.YtakilnpfhljgfaaGreat.DK

/- The disk: calls that refuse turn nothing. No condition. -/
namespace Go.Proofs.YtakilnpfhljgfaaGreat.DK
set_option maxRecDepth 100000
open Go.RowKit Go.Proofs.YtakilnpfhljgfaaGreat.MI
set_option linter.unusedVariables false
set_option linter.unusedSimpArgs false
section
variable {w w' : World} {B g N : Nat} {p : Pl} {D : Dk}
/-- Write, where it refuses: nothing turns. -/
theorem write_ref (h : DiskAt w B g p N D) (n e q : Int) (b : ByteArray) (hsz : b.size ≤ 1000000) (hN : N ≤ 100000000) (hno : ¬ (mayK D n = 0 ∧ argB b = true ∧ admK D n e = 0 ∧ thereK D q ((b.size / 64 : Nat) : Int) = true)) :
    Calls Tryz.prog 75 #[.pointer (some ⟨g, 0, none⟩), .int .i64 n, .int .u64 e, .int .i64 q, .string b] w fun e' w' => e' = .returned (.int .i64 (writeE D n e q b)) ∧ w' = w := by
  have km := may_any h n
  have hq : (b.size : Int).tdiv 64 = ((b.size / 64 : Nat) : Int) := by rw [Int.tdiv_eq_ediv_of_nonneg (by omega)]; omega
  have hm : (b.size : Int).tmod 64 = ((b.size % 64 : Nat) : Int) := by rw [Int.tmod_eq_emod_of_nonneg (by omega)]; omega
  by_cases hm0 : mayK D n = 0
  · rw [hm0] at km
    have hin := may_in hm0
    by_cases ha : argB b = true
    · have hB : 64 ≤ b.size ∧ b.size / 64 ≤ 16 ∧ b.size % 64 = 0 := by unfold argB at ha; simp at ha; omega
      rw [hB.2.2] at hm
      obtain ⟨c, hc⟩ : ∃ c, b.size / 64 = c := ⟨_, rfl⟩
      have hbs : b.size = c * 64 := by omega
      rw [hc] at hq hno
      have hc1 : 1 ≤ c := by omega
      have hc2 : c ≤ 16 := by omega
      have kd := admits_any h n e hin
      by_cases hd : admK D n e = 0
      · rw [hd] at kd
        have kt := there_any h q ((c : Nat) : Int)
        cases ht : thereK D q ((c : Nat) : Int)
        · have r1 : writeE D n e q b = 30 := by unfold writeE; rw [if_pos hm0, if_pos ha, if_pos hd, hc, ht]; rfl
          rw [r1]
          rw [ht] at kt
          clear h r1 hno hd ha hB hc hm0 ht
          go_enter Tryz.func75, Tryz.ntmps75
          go_wp2_with (first
            | (go_at_call 64; refine km.mono ?_; rintro e w0 ⟨rfl, rfl⟩)
            | (go_at_call 81; refine kd.mono ?_; rintro e w0 ⟨rfl, rfl⟩)
            | (go_at_call 86; refine kt.mono ?_; rintro e w0 ⟨rfl, rfl⟩))
          go_ret
          exact ⟨rfl, rfl⟩
        · exact absurd ⟨hm0, ha, hd, ht⟩ hno
      · have ha' : admK D n e = 34 := by unfold admK at hd ⊢; split at hd <;> simp_all
        have r1 : writeE D n e q b = 34 := by unfold writeE; rw [if_pos hm0, if_pos ha, if_neg hd]
        rw [r1]
        rw [ha'] at kd
        clear h r1 hno hd ha hB hc hm0 ha'
        go_enter Tryz.func75, Tryz.ntmps75
        go_wp2_with (first
          | (go_at_call 64; refine km.mono ?_; rintro e w0 ⟨rfl, rfl⟩)
          | (go_at_call 81; refine kd.mono ?_; rintro e w0 ⟨rfl, rfl⟩))
        go_ret
        exact ⟨rfl, rfl⟩
    · have r1 : writeE D n e q b = 1 := by unfold writeE; rw [if_pos hm0, if_neg ha]
      rw [r1]
      have hcs : b.size / 64 < 1 ∨ (1 ≤ b.size / 64 ∧ 16 < b.size / 64) ∨ (1 ≤ b.size / 64 ∧ b.size / 64 ≤ 16 ∧ b.size % 64 ≠ 0) := by unfold argB at ha; simp at ha; omega
      obtain ⟨c, hc⟩ : ∃ c, b.size / 64 = c := ⟨_, rfl⟩
      obtain ⟨m, hmm⟩ : ∃ m, b.size % 64 = m := ⟨_, rfl⟩
      have hcb : c ≤ 1000000 := by omega
      have hcb2 : (c : Int) ≤ 1000000 := by omega
      rw [hc] at hq hcs
      rw [hmm] at hm hcs
      clear h r1 hno ha hc hmm hm0
      rcases hcs with h1 | ⟨h1, h2⟩ | ⟨h1, h2, h3⟩
      · have b1 : decide ((c : Int) < 1) = true := by simp; omega
        go_enter Tryz.func75, Tryz.ntmps75
        go_wp2_with (go_at_call 64; refine km.mono ?_; rintro e w0 ⟨rfl, rfl⟩)
        go_ret
        exact ⟨rfl, rfl⟩
      · have b1 : decide ((c : Int) < 1) = false := by simp; omega
        have b2 : decide (16 < (c : Int)) = true := by simp; omega
        go_enter Tryz.func75, Tryz.ntmps75
        go_wp2_with (go_at_call 64; refine km.mono ?_; rintro e w0 ⟨rfl, rfl⟩)
        go_ret
        exact ⟨rfl, rfl⟩
      · have b1 : decide ((c : Int) < 1) = false := by simp; omega
        have b2 : decide (16 < (c : Int)) = false := by simp; omega
        have b3 : ((m : Int) != 0) = true := by simp; omega
        go_enter Tryz.func75, Tryz.ntmps75
        go_wp2_with (go_at_call 64; refine km.mono ?_; rintro e w0 ⟨rfl, rfl⟩)
        go_ret
        exact ⟨rfl, rfl⟩
  · have r1 : writeE D n e q b = mayK D n := by unfold writeE; rw [if_neg hm0]
    rw [r1]
    obtain ⟨v, hv⟩ : ∃ v, mayK D n = v := ⟨_, rfl⟩
    rw [hv] at km hm0 ⊢
    have b1 : (v != 0) = true := by simpa using hm0
    clear r1 hm0 h hv hno hm hq
    go_enter Tryz.func75, Tryz.ntmps75
    go_wp2_with (go_at_call 64; refine km.mono ?_; rintro e w0 ⟨rfl, rfl⟩)
    go_ret
    exact ⟨rfl, rfl⟩
theorem refused {D : Dk} {n e q : Int} {b : ByteArray} (h : writeE D n e q b ≠ 0) (h2 : writeE D n e q b ≠ 14) : ¬ (mayK D n = 0 ∧ argB b = true ∧ admK D n e = 0 ∧ thereK D q ((b.size / 64 : Nat) : Int) = true) := by
  rintro ⟨h3, h4, h5, h6⟩
  unfold writeE at h h2
  rw [if_pos h3, if_pos h4, if_pos h5, h6] at h h2
  cases hg : goesB D
  · rw [hg] at h; exact h rfl
  · rw [hg] at h2; exact h2 rfl
theorem writeK_refused {D : Dk} {n e q : Int} {b : ByteArray} (h : ¬ (mayK D n = 0 ∧ argB b = true ∧ admK D n e = 0 ∧ thereK D q ((b.size / 64 : Nat) : Int) = true)) : writeK D n e q b = D := by unfold writeK; rw [if_neg h]
end
theorem own_write_ref {w0 W : World} {g N : Nat} {D : Dk} (h : Own w0 g N D W) (n e q : Int) (b : ByteArray) (hsz : b.size ≤ 1000000) (hN : N ≤ 10000000) (hno : ¬ (mayK D n = 0 ∧ argB b = true ∧ admK D n e = 0 ∧ thereK D q ((b.size / 64 : Nat) : Int) = true)) :
    Calls Tryz.prog 75 #[.pointer (some ⟨g, 0, none⟩), .int .i64 n, .int .u64 e, .int .i64 q, .string b] W fun e' w' => e' = .returned (.int .i64 (writeE D n e q b)) ∧ w' = W := by
  obtain ⟨p, h1, h2⟩ := h
  exact write_ref h1 n e q b hsz (by omega) hno
end Go.Proofs.YtakilnpfhljgfaaGreat.DK

/- commonslaw8.alive. No condition. -/
namespace Go.Proofs.YtakilnpfhljgfaaGreat.DK
set_option maxRecDepth 100000
open Go.RowKit Go.Proofs.YtakilnpfhljgfaaGreat.MI
set_option linter.unusedVariables false
set_option linter.unusedSimpArgs false

theorem zeros_blk {w : World} {b : Nat} (h : Blk w b 5 (zeroCells 64)) : (convert 84 9 (.slice (some ⟨b, 0, none⟩) 64 64)).run Tryz.prog w = .ok (.string zsec) w := by
  refine text_of (l := List.replicate 64 0) ⟨h.lt, fun j x hx => ?_⟩ 64 64 (by simp)
  refine ⟨?_, h.frozen j⟩
  rw [h.cell]
  have hj : j < 64 := by
    rcases Nat.lt_or_ge j 64 with h | h
    · exact h
    · rw [List.getElem?_eq_none (by simpa using h)] at hx; cases hx
  rw [List.getElem?_replicate, if_pos hj] at hx
  injection hx with hx
  subst hx
  simp [zeroCells, madeCells, hj, Value.cells, Nat.mod_one]
abbrev dA1 : Dk := admitK (newK 4) 1 1
abbrev dA2 : Dk := writeK dA1 1 1 0 (sameT 97 2)
abbrev dA3 : Dk := cutK dA2 [0, 1]
abbrev dA4 : Dk := restoreK dA3
theorem vA1 : admitE (newK 4) 1 1 = 0 := by kernel_rfl
theorem vA2 : writeE dA1 1 1 0 (sameT 97 2) = 0 := by kernel_rfl
theorem vA3 : cutN dA2 = 2 := by kernel_rfl
theorem vA4 : readT dA4 0 2 = zsec ++ sameT 97 1 := by decide +kernel
theorem vA5 : readE dA4 0 2 = 0 := by kernel_rfl
theorem vA6 : dA4.last = 1 := by kernel_rfl
theorem vA7 : writeE dA4 1 2 0 (sameT 97 1) = 34 := by kernel_rfl
end Go.Proofs.YtakilnpfhljgfaaGreat.DK

/- What a disk's calls make of it, where no power goes: plain laws. No condition. -/
namespace Go.Proofs.YtakilnpfhljgfaaGreat.DK
set_option maxRecDepth 100000
open Go.RowKit Go.Proofs.YtakilnpfhljgfaaGreat.MI
set_option linter.unusedVariables false
set_option linter.unusedSimpArgs false

section
variable {D D' : Dk} {n e a : Int} {b : ByteArray}
theorem goes_un (h : D.armed = false) : goesB D = false ∧ goesK D = D := by unfold goesB goesK; rw [h]; exact ⟨rfl, rfl⟩
theorem many_fields (D : Dk) (n a : Int) (b : ByteArray) (c : Nat) : (manyK D n a b c).on = D.on ∧ (manyK D n a b c).room = D.room ∧ (manyK D n a b c).table = D.table ∧ (manyK D n a b c).words = D.words ∧ (manyK D n a b c).last = D.last ∧ (manyK D n a b c).armed = D.armed ∧ (manyK D n a b c).left = D.left ∧ (manyK D n a b c).stays = D.stays ∧ (manyK D n a b c).lasts = D.lasts := by
  induction c with
  | zero => exact ⟨rfl, rfl, rfl, rfl, rfl, rfl, rfl, rfl, rfl⟩
  | succ c ih => exact ih
theorem many_now (D : Dk) (n a : Int) (b : ByteArray) (c : Nat) (x : Int) : (manyK D n a b c).now x = if a ≤ x ∧ x < a + (c : Int) then some (sect b (x - a).toNat) else D.now x := by
  induction c with
  | zero => rw [if_neg (by omega)]; rfl
  | succ c ih =>
    show putF (manyK D n a b c).now (a + (c : Int)) (sect b c) x = _
    by_cases hx : x = a + (c : Int)
    · subst hx
      rw [putF_same, if_pos (by omega)]
      congr 2
      omega
    · rw [putF_other _ _ hx, ih]
      by_cases h1 : a ≤ x ∧ x < a + (c : Int)
      · rw [if_pos h1, if_pos (by omega)]
      · rw [if_neg h1, if_neg (by omega)]
theorem readS_congr {k : Nat} (h : ∀ i : Nat, i < k → D.now (a + (i : Int)) = D'.now (a + (i : Int))) : readS D a k = readS D' a k := by
  induction k with
  | zero => rfl
  | succ k ih => unfold readS; rw [ih (fun i hi => h i (by omega)), h k (by omega)]
theorem readS_add (D : Dk) (a : Int) (k m : Nat) : readS D a (k + m) = readS D a k ++ readS D (a + (k : Int)) m := by
  induction m with
  | zero => simp [readS]
  | succ m ih =>
    show readS D a (k + m) ++ _ = _ ++ (readS D (a + (k : Int)) m ++ _)
    rw [ih, List.append_assoc, show a + ((k.add m : Nat) : Int) = a + (k : Int) + (m : Int) by rw [show k.add m = k + m from rfl]; omega]
theorem sect_list (b : ByteArray) (k : Nat) : (sect b k).data.toList = (b.data.toList.drop (k * 64)).take 64 := by
  unfold sect
  rw [ByteArray.data_extract, Array.toList_extract, List.extract_eq_take_drop]
  congr 1
  omega
theorem read_many_take (D : Dk) (n a : Int) (b : ByteArray) (c k : Nat) (hk : k ≤ c) (hb : b.size = 64 * c) : readS (manyK D n a b c) a k = b.data.toList.take (64 * k) := by
  induction k with
  | zero => simp [readS]
  | succ k ih =>
    unfold readS
    rw [ih (by omega), many_now, if_pos (by omega)]
    rw [show (a + (k : Int) - a).toNat = k by omega]
    simp only [Option.getD_some]
    rw [sect_list, show 64 * (k + 1) = 64 * k + 64 by omega, List.take_add, Nat.mul_comm k 64]
theorem read_many (D : Dk) (n a : Int) (b : ByteArray) (c : Nat) (hb : b.size = 64 * c) : readS (manyK D n a b c) a c = b.data.toList := by
  rw [read_many_take D n a b c c (Nat.le_refl _) hb]
  exact List.take_of_length_le (by rw [Array.length_toList]; exact Nat.le_of_eq hb)
theorem read_far (D : Dk) (n a x : Int) (b : ByteArray) (c k : Nat) (h : x + (k : Int) ≤ a ∨ a + (c : Int) ≤ x) : readS (manyK D n a b c) x k = readS D x k :=
  readS_congr fun i hi => by rw [many_now, if_neg (by omega)]
theorem argB_iff (b : ByteArray) : argB b = true ↔ 64 ≤ b.size ∧ b.size / 64 ≤ 16 ∧ b.size % 64 = 0 := by unfold argB; simp; omega
theorem write_good (h1 : D.on = true) (h2 : inNode n = true) (h3 : D.armed = false) (h4 : D.table n = e) (h5 : e ≠ 0) {c : Nat} (hb : b.size = 64 * c) (hc : 1 ≤ c ∧ c ≤ 16) (ha : 0 ≤ a ∧ a + (c : Int) ≤ D.room) :
    writeE D n e a b = 0 ∧ writeK D n e a b = manyK D n a b c := by
  have m1 : mayK D n = 0 := by unfold mayK; rw [h1, h2]; rfl
  have m2 : argB b = true := (argB_iff b).2 (by omega)
  have m3 : admK D n e = 0 := by unfold admK; rw [h4]; simp [h5]
  have hq : b.size / 64 = c := by omega
  have m4 : thereK D a ((b.size / 64 : Nat) : Int) = true := by unfold thereK; rw [hq]; simp; omega
  obtain ⟨g1, g2⟩ := goes_un h3
  constructor
  · unfold writeE; rw [if_pos m1, if_pos m2, if_pos m3, m4, g1]; rfl
  · unfold writeK; rw [if_pos ⟨m1, m2, m3, m4⟩, g1, g2, hq]; rfl
theorem admit_good (h1 : D.on = true) (h2 : inNode n = true) (h3 : D.armed = false) (h4 : D.last < e) : admitE D n e = 0 ∧ admitK D n e = { D with table := updF D.table n e, last := e } := by
  have m1 : mayK D n = 0 := by unfold mayK; rw [h1, h2]; rfl
  obtain ⟨g1, g2⟩ := goes_un h3
  constructor
  · unfold admitE; rw [if_pos m1, if_neg (by omega), g1]; rfl
  · unfold admitK; rw [if_pos ⟨m1, by omega⟩, g1, g2]; rfl
theorem barrier_good (h1 : D.on = true) (h2 : inNode n = true) (h3 : D.armed = false) (h4 : D.table n = e) (h5 : e ≠ 0) : barrierE D n e = 0 ∧ barrierK D n e = settleK D n := by
  have m1 : mayK D n = 0 := by unfold mayK; rw [h1, h2]; rfl
  have m3 : admK D n e = 0 := by unfold admK; rw [h4]; simp [h5]
  obtain ⟨g1, g2⟩ := goes_un h3
  constructor
  · unfold barrierE; rw [if_pos m1, if_pos m3, g1]; rfl
  · unfold barrierK; rw [if_pos ⟨m1, m3⟩, g1, g2]; rfl
theorem fence_good (h1 : D.on = true) (h2 : inNode n = true) (h3 : D.armed = false) : fenceE D n = 0 ∧ fenceK D n = { settleK D n with table := updF D.table n 0 } := by
  have m1 : mayK D n = 0 := by unfold mayK; rw [h1, h2]; rfl
  obtain ⟨g1, g2⟩ := goes_un h3
  constructor
  · unfold fenceE; rw [if_pos m1, g1]; rfl
  · unfold fenceK; rw [if_pos m1, g1, g2]; rfl
theorem put_good (h1 : D.on = true) (h2 : inNode n = true) (h3 : D.armed = false) (v : Int) : fenceE D n = 0 ∧ putK D n v = { D with words := updF D.words n v } := by
  have m1 : mayK D n = 0 := by unfold mayK; rw [h1, h2]; rfl
  obtain ⟨g1, g2⟩ := goes_un h3
  constructor
  · unfold fenceE; rw [if_pos m1, g1]; rfl
  · unfold putK; rw [if_pos m1, g1, g2]; rfl
theorem read_good (h1 : D.on = true) {k : Nat} (hk : 1 ≤ k ∧ k ≤ 400) (ha : 0 ≤ a ∧ a + (k : Int) ≤ D.room) : readE D a (k : Int) = 0 ∧ readT D a (k : Int) = ⟨(readS D a k).toArray⟩ := by
  have hr : readB D a (k : Int) = true := by unfold readB thereK; simp; omega
  have m : readE D a (k : Int) = 0 := by unfold readE; rw [h1, hr]; rfl
  exact ⟨m, by unfold readT; rw [if_pos m]; simp⟩
theorem arr_list (b : ByteArray) : (⟨b.data.toList.toArray⟩ : ByteArray) = b := by cases b; rfl
theorem sect_one (h : b.size = 64) : sect b 0 = b := by
  unfold sect
  apply ByteArray.ext
  rw [ByteArray.data_extract]
  apply Array.ext'
  rw [Array.toList_extract, List.extract_eq_take_drop]
  simp
  exact List.take_of_length_le (by rw [Array.length_toList]; exact Nat.le_of_eq h)
/-- One sector is written. -/
theorem write_one (h1 : D.on = true) (h2 : inNode n = true) (h3 : D.armed = false) (h4 : D.table n = e) (h5 : e ≠ 0) (hb : b.size = 64) (ha : 0 ≤ a) (ha2 : a + 1 ≤ (D.room : Int)) :
    writeE D n e a b = 0 ∧ writeK D n e a b = oneK D n a b := by
  have h := write_good (c := 1) h1 h2 h3 h4 h5 (by omega) (by omega) ⟨ha, by omega⟩
  refine ⟨h.1, h.2.trans ?_⟩
  show oneK D n (a + ((0 : Nat) : Int)) (sect b 0) = _
  rw [sect_one hb, show a + ((0 : Nat) : Int) = a by omega]
/-- One sector is read. -/
theorem read_one {s : ByteArray} (he : readE D a 1 = 0) (hs : (D.now a).getD zsec = s) : readE D a 1 = 0 ∧ readT D a 1 = s := by
  refine ⟨he, ?_⟩
  unfold readT
  rw [if_pos he]
  show (⟨(([] : List UInt8) ++ ((D.now (a + ((0 : Nat) : Int))).getD zsec).data.toList).toArray⟩ : ByteArray) = s
  rw [show a + ((0 : Nat) : Int) = a by omega, hs, List.nil_append]
theorem stays_row {w : World} {A : Option Addr} {m c : Nat} {z : List Int} (h : IsRow .i64 w A m c z) (i : Nat) : staysB (z.take m) i = (decide (i < m) && oddB (z.getD i 0)) := by
  have hl := h.len.2.2
  unfold staysB
  rw [List.length_take, Nat.min_eq_left hl]
  by_cases hi : i < m
  · rw [List.getD_eq_getElem?_getD, List.getD_eq_getElem?_getD, List.getElem?_take, if_pos hi]
  · simp [hi]
end
end Go.Proofs.YtakilnpfhljgfaaGreat.DK

/- super: zeros, lay, Format. No condition. -/
namespace Go.Proofs.YtakilnpfhljgfaaGreat.SU
set_option maxRecDepth 100000
open Go.RowKit Go.Proofs.YtakilnpfhljgfaaGreat.WI Go.Proofs.YtakilnpfhljgfaaGreat.SM Go.Proofs.YtakilnpfhljgfaaGreat.DK
set_option linter.unusedVariables false
set_option linter.unusedSimpArgs false

/-- A disk that is on, is not armed, and admits node 0 with the epoch e. -/
structure Up (D : Dk) (e : Int) : Prop where
  on : D.on = true
  armed : D.armed = false
  table : D.table 0 = e
  e : e ≠ 0
def zLen (size : Int) (k : Nat) : Nat := min 16 (size - 16 * (k : Int)).toNat
def zK (D : Dk) (e size : Int) : Nat → Dk
  | 0 => D
  | k + 1 => writeK (zK D e size k) 0 e (16 * (k : Int)) (zerosT (64 * zLen size k))
theorem z_step {D : Dk} {e size : Int} (h : Up D e) (k : Nat) (hk : 16 * (k : Int) < size) (hr : size ≤ (D.room : Int)) :
    writeE D 0 e (16 * (k : Int)) (zerosT (64 * zLen size k)) = 0 ∧ writeK D 0 e (16 * (k : Int)) (zerosT (64 * zLen size k)) = manyK D 0 (16 * (k : Int)) (zerosT (64 * zLen size k)) (zLen size k) := by
  have hz : 1 ≤ zLen size k ∧ zLen size k ≤ 16 ∧ 16 * (k : Int) + (zLen size k : Int) ≤ size := by unfold zLen; omega
  exact write_good (c := zLen size k) h.on rfl h.armed h.table h.e (by rw [zerosT_size]) ⟨hz.1, hz.2.1⟩ ⟨by omega, by omega⟩
theorem z_up {D : Dk} {e size : Int} (h : Up D e) (hr : size ≤ (D.room : Int)) : ∀ k : Nat, 16 * ((k : Int) - 1) < size → Up (zK D e size k) e ∧ (zK D e size k).room = D.room := by
  intro k
  induction k with
  | zero => intro _; exact ⟨h, rfl⟩
  | succ k ih =>
    intro hk
    obtain ⟨i1, i2⟩ := ih (by omega)
    have hs := (z_step (size := size) i1 k (by omega) (by rw [i2]; exact hr)).2
    obtain ⟨f1, f2, f3, f4, f5, f6, _⟩ := many_fields (zK D e size k) 0 (16 * (k : Int)) (zerosT (64 * zLen size k)) (zLen size k)
    show Up (writeK (zK D e size k) 0 e (16 * (k : Int)) (zerosT (64 * zLen size k))) e ∧ (writeK (zK D e size k) 0 e (16 * (k : Int)) (zerosT (64 * zLen size k))).room = D.room
    rw [hs]
    exact ⟨⟨f1.trans i1.on, f6.trans i1.armed, by rw [f3]; exact i1.table, i1.e⟩, f2.trans i2⟩
def zRounds (size : Int) : Nat := ((size + 15) / 16).toNat
set_option maxHeartbeats 4000000 in
theorem zeros_any {w0 W : World} {g N : Nat} {D : Dk} (h : Own w0 g N D W) (e size : Int) (hu : Up D e) (hs : 1 ≤ size ∧ size ≤ 20000) (hr : size ≤ (D.room : Int)) (hN : N ≤ 1000000) :
    Calls Tryz.prog 84 #[.pointer (some ⟨g, 0, none⟩), .int .u64 e, .int .i64 size] W fun x w' => x = .returned (.int .i64 0) ∧ Own w0 g (N + 16 * zRounds size) (barrierK (zK D e size (zRounds size)) 0 e) w' := by
  have HO := Lib.hid h
  have HU := Lib.hid (fun k hk => z_up hu hr k hk)
  have HS := Lib.hid (fun (k : Nat) (hk : 16 * (k : Int) < size) => z_step (z_up hu hr k (by omega)).1 k hk (by rw [(z_up hu hr k (by omega)).2]; exact hr))
  have hr0 := hu.e
  clear h hu
  go_enter Tryz.func84, Tryz.ntmps84
  go_wp2_with fail
  go_loopw [7, 8, 9] (fun i _ _ wr => ∃ k : Nat, i = .int .i64 (16 * (k : Int)) ∧ k ≤ zRounds size ∧ Hid (Own w0 g (N + 16 * k) (zK D e size k) wr)) (fun i _ _ _ => (size - intOf i + 16).toNat)
  case atStart => exact ⟨0, rfl, Nat.zero_le _, HO⟩
  case round =>
    obtain ⟨k, rfl, hk, HW⟩ := hrel
    by_cases hlt : 16 * (k : Int) < size
    · obtain ⟨z1, _⟩ := HS.out k hlt
      have hzl : ((zLen size k : Nat) : Int) = min 16 (size - 16 * (k : Int)) := by unfold zLen; omega
      have hz2 : 1 ≤ zLen size k ∧ zLen size k ≤ 16 := by unfold zLen; omega
      have hk3 : N + 16 * k ≤ 10000000 := by unfold zRounds at hk; omega
      have kw := fun W (h : Own w0 g (N + 16 * k) (zK D e size k) W) => own_write h 0 e (16 * (k : Int)) (zerosT (64 * zLen size k)) (by rw [zerosT_size]; omega) hk3
      rw [z1] at kw
      have kr := fun W => Tryz.strings_Repeat (ByteArray.mk #[0]) (64 * zLen size k) W (by omega) (by show 1 * _ ≤ _; omega)
      obtain ⟨Z, hZ⟩ : ∃ Z, zLen size k = Z := ⟨_, rfl⟩
      have c1 : decide (16 * (k : Int) < size) = true := by simpa using hlt
      have e1 : IntKind.i64.wrap (size - 16 * (k : Int)) = size - 16 * (k : Int) := IntWalk.i64_in _ (by omega)
      have e2 : IntKind.i64.wrap ((Z : Int) * 64) = ((64 * Z : Nat) : Int) := by rw [IntWalk.i64_in _ (by omega)]; omega
      have e3 : IntKind.i64.wrap (16 * (k : Int) + 16) = 16 * ((k : Int) + 1) := by rw [IntWalk.i64_in _ (by omega)]; omega
      have hmin : min 16 (size - 16 * (k : Int)) = (Z : Int) := by rw [← hZ, hzl]
      have hzk : zK D e size (k + 1) = writeK (zK D e size k) 0 e (16 * (k : Int)) (zerosT (64 * zLen size k)) := rfl
      rw [hZ] at kw kr hzk
      have HZK := Lib.hid hzk
      clear z1 hzl hz2 hZ hzk
      have hk4 : k + 1 ≤ zRounds size := by unfold zRounds at hk ⊢; omega
      go_wp2_with (first
        | (go_at_call 87; refine (kr _).mono ?_; rintro x w4 ⟨rfl, hb4⟩; have HW4 := Lib.hid (HW.out.then_ hb4); clear hb4)
        | (go_at_call 75; refine (kw _ HW4.out).mono ?_; rintro x w5 ⟨rfl, ho5⟩; have HW5 := Lib.hid ho5; clear ho5))
      go_roundw
      case rel => exact ⟨k + 1, by go_num, hk4, Lib.hid (by rw [HZK.out]; have := HW5.out; rwa [show N + 16 * k + 16 = N + 16 * (k + 1) by omega] at this)⟩
      case measure => simp [intOf]; omega
    · obtain rfl : k = zRounds size := by unfold zRounds at hk ⊢; omega
      have hu2 := (HU.out (zRounds size) (by unfold zRounds; omega)).1
      have kb := own_barrier HW.out 0 e (by unfold zRounds; omega)
      rw [(barrier_good hu2.on rfl hu2.armed hu2.table hu2.e).1] at kb
      have c1 : decide (16 * ((zRounds size : Nat) : Int) < size) = false := by simpa using hlt
      clear hu2
      go_wp2_with (go_at_call 48; refine kb.mono ?_; rintro x w5 ⟨rfl, ho5⟩)
      exact end_ret (t := 6) (v := .int .i64 0) (by kernel_rfl) rfl rfl ⟨rfl, ho5⟩
end Go.Proofs.YtakilnpfhljgfaaGreat.SU

/- super: a disk with a block beside it; lay. No condition. -/
namespace Go.Proofs.YtakilnpfhljgfaaGreat.SU
set_option maxRecDepth 100000
open Go.RowKit Go.Proofs.YtakilnpfhljgfaaGreat.WI Go.Proofs.YtakilnpfhljgfaaGreat.SM Go.Proofs.YtakilnpfhljgfaaGreat.DK
set_option linter.unusedVariables false
set_option linter.unusedSimpArgs false

/-- A disk, and a block beside it that its calls leave. -/
def Own2 (w0 : World) (g N : Nat) (D : Dk) (x : Nat) (T : TypeId) (cs : Array Value) (W : World) : Prop :=
  ∃ p, DiskAt W w0.heap.size g p N D ∧ Below w0.heap.size w0 W ∧ Blk W x T cs ∧ ¬ fp g p x
section
variable {w0 W W' : World} {g N N' x : Nat} {D D' : Dk} {T : TypeId} {cs : Array Value}
theorem Own2.own (h : Own2 w0 g N D x T cs W) : Own w0 g N D W := by obtain ⟨p, h1, h2, _⟩ := h; exact ⟨p, h1, h2⟩
theorem Own2.blk (h : Own2 w0 g N D x T cs W) : Blk W x T cs := by obtain ⟨p, _, _, h3, _⟩ := h; exact h3
theorem Own2.then_ (h : Own2 w0 g N D x T cs W) (hb : Below W.heap.size W W') : Own2 w0 g N D x T cs W' := by
  obtain ⟨p, h1, h2, h3, h4⟩ := h
  exact ⟨p, h1.old hb, belowThen h2 hb, h3.below hb h3.lt, h4⟩
theorem Own2.of {p : Pl} (h : DiskAt W w0.heap.size g p N D) (hb : Below w0.heap.size w0 W) (hx : Blk W x T cs) (hn : ¬ fp g p x) (ho : DiskOut W w0.heap.size g p N' D' W') : Own2 w0 g N' D' x T cs W' := by
  obtain ⟨p', h1, h2, h3, _⟩ := ho
  refine ⟨p', h1, h2.after hb h.ge h.base, hx.keeps h2 hn, fun hk => ?_⟩
  rcases h3 x hk with h5 | h5
  · exact hn h5
  · have := hx.lt; omega
theorem Own.beside (h : Own w0 g N D W) (T : TypeId) (cs : Array Value) : Own2 w0 g N D W.heap.size T cs (W.alloc (.cells cs T)) := by
  obtain ⟨p, h1, h2⟩ := h
  exact ⟨p, h1.alloc _, belowNew h2 _, Blk.new _ _ _, fun hk => by have := h1.lt _ hk; omega⟩
theorem own2_fence (h : Own2 w0 g N D x T cs W) (n : Int) (hN : N ≤ 10000000) : Calls Tryz.prog 58 #[.pointer (some ⟨g, 0, none⟩), .int .i64 n] W fun e' w' => e' = .returned (.int .i64 (fenceE D n)) ∧ Own2 w0 g N (fenceK D n) x T cs w' := by
  obtain ⟨p, h1, h2, h3, h4⟩ := h
  exact (fence_any h1 n (by omega)).mono fun _ _ ⟨he, ho⟩ => ⟨he, Own2.of h1 h2 h3 h4 ho⟩
theorem own2_put (h : Own2 w0 g N D x T cs W) (n v : Int) (hN : N ≤ 10000000) : Calls Tryz.prog 59 #[.pointer (some ⟨g, 0, none⟩), .int .i64 n, .int .u64 v] W fun e' w' => e' = .returned (.int .i64 (fenceE D n)) ∧ Own2 w0 g N (putK D n v) x T cs w' := by
  obtain ⟨p, h1, h2, h3, h4⟩ := h
  exact (put_any h1 n v (by omega)).mono fun _ _ ⟨he, ho⟩ => ⟨he, Own2.of h1 h2 h3 h4 ho⟩
theorem own2_admit (h : Own2 w0 g N D x T cs W) (n e : Int) (hN : N ≤ 10000000) : Calls Tryz.prog 30 #[.pointer (some ⟨g, 0, none⟩), .int .i64 n, .int .u64 e] W fun e' w' => e' = .returned (.int .i64 (admitE D n e)) ∧ Own2 w0 g N (admitK D n e) x T cs w' := by
  obtain ⟨p, h1, h2, h3, h4⟩ := h
  exact (admit_any h1 n e (by omega)).mono fun _ _ ⟨he, ho⟩ => ⟨he, Own2.of h1 h2 h3 h4 ho⟩
theorem own_sectors (h : Own w0 g N D W) : Calls Tryz.prog 56 #[.pointer (some ⟨g, 0, none⟩)] W fun e' w' => e' = .returned (.int .i64 (D.room : Int)) ∧ w' = W := by obtain ⟨p, h1, h2⟩ := h; exact sectors_any h1
end
theorem Up.settle {D : Dk} {e : Int} (h : Up D e) (n : Int) : Up (settleK D n) e := ⟨h.on, h.armed, h.table, h.e⟩
theorem Up.barrier {D : Dk} {e : Int} (h : Up D e) : barrierE D 0 e = 0 ∧ barrierK D 0 e = settleK D 0 := barrier_good h.on rfl h.armed h.table h.e
/-- The disk behind lay. -/
def layK (D : Dk) (e : Int) (s : Sh) : Dk := barrierK (writeK (barrierK (zK D e (sizeI s) (zRounds (sizeI s))) 0 e) 0 e 0 (superT s)) 0 e
theorem size_b {s : Sh} (h : Good s) : 1 ≤ sizeI s ∧ sizeI s ≤ 20000 := by
  have h1 := mul_le s.n s.l h.n h.l
  have h2 := h.b
  unfold sizeI
  omega
theorem lay_parts {D : Dk} {e : Int} {s : Sh} (hu : Up D e) (hg : Good s) (hr : sizeI s ≤ (D.room : Int)) :
    writeE (barrierK (zK D e (sizeI s) (zRounds (sizeI s))) 0 e) 0 e 0 (superT s) = 0 ∧ barrierE (writeK (barrierK (zK D e (sizeI s) (zRounds (sizeI s))) 0 e) 0 e 0 (superT s)) 0 e = 0 ∧
    layK D e s = settleK (oneK (settleK (zK D e (sizeI s) (zRounds (sizeI s))) 0) 0 0 (superT s)) 0 ∧ Up (layK D e s) e ∧ (layK D e s).room = D.room := by
  have hb := size_b hg
  obtain ⟨z1, z2⟩ := z_up hu hr (zRounds (sizeI s)) (by unfold zRounds; omega)
  have hb1 := z1.barrier.2
  have z3 := z1.settle 0
  have hw := write_one (n := 0) (a := 0) z3.on rfl z3.armed z3.table z3.e (superT_size s) (Int.le_refl 0) (by show (0 : Int) + 1 ≤ ((zK D e (sizeI s) (zRounds (sizeI s))).room : Int); rw [z2]; omega)
  have z4 : Up (oneK (settleK (zK D e (sizeI s) (zRounds (sizeI s))) 0) 0 0 (superT s)) e := ⟨z3.on, z3.armed, z3.table, z3.e⟩
  unfold layK
  rw [hb1, hw.2, z4.barrier.2]
  exact ⟨hw.1, z4.barrier.1, rfl, z4.settle 0, z2⟩
set_option maxHeartbeats 4000000 in
theorem lay_any {w0 W : World} {g N : Nat} {D : Dk} (h : Own w0 g N D W) (e : Int) (s : Sh) (hu : Up D e) (hg : Good s) (hr : sizeI s ≤ (D.room : Int)) (hN : N ≤ 1000000) :
    Calls Tryz.prog 61 #[.pointer (some ⟨g, 0, none⟩), .int .u64 e, sagg s] W fun x w' => x = .returned (.int .i64 0) ∧ Own w0 g (N + 16 * zRounds (sizeI s) + 16) (layK D e s) w' := by
  have hb := size_b hg
  obtain ⟨p1, p2, _, _, _⟩ := lay_parts hu hg hr
  have kp := fun W => put_ok s hg W
  have ks := fun W => size_ok s hg W
  have kz := fun W (h : Own w0 g N D W) => zeros_any h e (sizeI s) hu hb hr hN
  have hzr : zRounds (sizeI s) ≤ 1251 := by unfold zRounds; omega
  have kw := fun W (h : Own w0 g (N + 16 * zRounds (sizeI s)) (barrierK (zK D e (sizeI s) (zRounds (sizeI s))) 0 e) W) => own_write h 0 e 0 (superT s) (by rw [superT_size]; omega) (by omega)
  rw [p1] at kw
  have kb := fun W (h : Own w0 g (N + 16 * zRounds (sizeI s) + 16) (writeK (barrierK (zK D e (sizeI s) (zRounds (sizeI s))) 0 e) 0 e 0 (superT s)) W) => own_barrier h 0 e (by omega)
  rw [p2] at kb
  have hl : layK D e s = barrierK (writeK (barrierK (zK D e (sizeI s) (zRounds (sizeI s))) 0 e) 0 e 0 (superT s)) 0 e := rfl
  rw [hl]
  have HO := Lib.hid (h.then_ (belowNew (belowSame W) (.cells (scells s) TSh)))
  have HBN := Lib.hid (Blk.new W TSh (scells s))
  unfold sagg at *
  generalize writeK (barrierK (zK D e (sizeI s) (zRounds (sizeI s))) 0 e) 0 e 0 (superT s) = D4 at *
  generalize barrierK (zK D e (sizeI s) (zRounds (sizeI s))) 0 e = D3 at *
  generalize superT s = ST at *
  generalize zRounds (sizeI s) = Z at *
  generalize sizeI s = SZ at *
  clear h hu hg hl p1 p2 hzr
  go_enter Tryz.func61, Tryz.ntmps61
  go_wp2_with (first
    | (go_at_call 83; refine (kp _).mono ?_; rintro x w1 ⟨rfl, hb1⟩; have bk := HBN.out.below hb1 HBN.out.lt; have c0 : w1.cell? ⟨W.heap.size, 0, none⟩ = some (.int .i64 s.n) := bk.cell 0; have c1 : w1.cell? ⟨W.heap.size, 1, none⟩ = some (.int .i64 s.b) := bk.cell 1; have c2 : w1.cell? ⟨W.heap.size, 2, none⟩ = some (.int .i64 s.l) := bk.cell 2; have c3 : w1.cell? ⟨W.heap.size, 3, none⟩ = some (.int .i64 s.c) := bk.cell 3; have c4 : w1.cell? ⟨W.heap.size, 4, none⟩ = some (.int .i64 s.e) := bk.cell 4; have H1 := Lib.hid (HO.out.then_ hb1); clear hb1 bk)
    | (go_at_call 57; refine (ks _).mono ?_; rintro x w2 ⟨rfl, hb2⟩; have H2 := Lib.hid (H1.out.then_ hb2); clear hb2)
    | (go_at_call 84; refine (kz _ H2.out).mono ?_; rintro x w3 ⟨rfl, ho3⟩; have H3 := Lib.hid ho3; clear ho3)
    | (go_at_call 75; refine (kw _ H3.out).mono ?_; rintro x w4 ⟨rfl, ho4⟩; have H4 := Lib.hid ho4; clear ho4)
    | (go_at_call 48; refine (kb _ H4.out).mono ?_; rintro x w5 ⟨rfl, ho5⟩; have H5 := Lib.hid ho5; clear ho5))
  exact end_ret (t := 6) (v := .int .i64 0) (by kernel_rfl) rfl rfl ⟨rfl, H5.out⟩
end Go.Proofs.YtakilnpfhljgfaaGreat.SU

/- As XRegInv; a slot that one operation of the region writes is known as it was to each operation that stands ahead of that one. Over any program. No condition. -/
namespace Go.Proofs.YtakilnpfhljgfaaGreat
set_option maxRecDepth 100000
open Go Go.RowKit
set_option linter.unusedVariables false
set_option linter.unusedSimpArgs false

/-- Each operation that writes slot t waits for operation i, or is it. -/
def keptB (ops : Array Oper) (i : Nat) (t : Tmp) : Bool := (List.range ops.size).all fun j => dstAt ops j != some t || (i == j || ((ops[j]?).map fun o => depB o i).getD false)
section
variable {P : Program} {ops : Array Oper} {Q : Exit → Act → World → Prop} {a0 : Act} {w0 : World} {V : Nat → Value → World → Prop}
def StepOk2 (P : Program) (ops : Array Oper) (Q : Exit → Act → World → Prop) (a0 : Act) (w0 : World) (V : Nat → Value → World → Prop) (i : Nat) (o : Oper) : Prop :=
  ∀ a w, RegAt ops a0 w0 V (fun j => depB o j = true) a w → (∀ t, keptB ops i t = true → a.tmps[t]? = a0.tmps[t]?) → ∀ K : Act → World → Prop, (∀ v w', Below w.heap.size w w' → V i v w' → K (a.put o.dst v) w') →
    if Region.wanted o (yielded ops a.tmps) = true then o.wp P a w K Q else K (a.put o.dst undef) w
theorem RegAt.not_wants {done : Nat → Prop} {a : Act} {w : World} (h : RegAt ops a0 w0 V done a w) {o : Oper} {g d : Nat} {b : Bool} (ho : o.guard = some (g, b)) (hg : done g) (hd : dstAt ops g = some d) (hv : ∀ v, V g v w → v = .bool (!b) ∨ v = undef) : Region.wanted o (yielded ops a.tmps) = false := by
  obtain ⟨v, h1, h2⟩ := h.got g d hg hd
  have h3 := hv v h2
  have e : ((ops[g]?).bind (·.dst)) = some d := hd
  unfold Region.wanted
  rw [ho]
  show (yielded ops a.tmps g == some b) = false
  unfold yielded
  rw [e]
  show ((match a.tmps[d]? with | some (.bool b) => some b | _ => none) == some b) = false
  rw [h1]
  rcases h3 with rfl | rfl
  · cases b <;> rfl
  · rfl
theorem RegAt.unwants {done : Nat → Prop} {a : Act} {w : World} (h : RegAt ops a0 w0 V done a w) {o : Oper} {g d : Nat} {b : Bool} (ho : o.guard = some (g, b)) (hg : done g) (hd : dstAt ops g = some d) (hv : ∀ v, V g v w → v = .bool (!b) ∨ v = undef) : ¬ (Region.wanted o (yielded ops a.tmps) = true) := by
  rw [h.not_wants ho hg hd hv]; decide
theorem kept_old {a : Act} {i : Nat} (h : ∀ t, keptB ops i t = true → a.tmps[t]? = a0.tmps[t]?) (t : Tmp) {v : Value} (ht : keptB ops i t = true) (hv : a0.tmps[t]? = some v) : a.tmps.getD t undef = v := by
  simp [Array.getD_eq_getD_getElem?, h t ht, hv]
theorem reg_any2 (hok : regionOk ops a0.tmps.size = true) (stab : ∀ i v w w', Below w.heap.size w w' → V i v w → V i v w')
    (step : ∀ i o, ops[i]? = some o → StepOk2 P ops Q a0 w0 V i o) (fin : ∀ a w, RegAt ops a0 w0 V (fun j => j < ops.size) a w → Q .normal a w) :
    ∀ (fuel : Nat) (listed : Array Bool) (a : Act) (w : World), listed.size = ops.size → listed.toList.count false ≤ fuel → RegAt ops a0 w0 V (fun j => listed[j]? = some true) a w → (∀ t, (∀ j, dstAt ops j = some t → listed[j]? = some false) → a.tmps[t]? = a0.tmps[t]?) → (∀ j : Nat, listed[j]? = some true → ∀ i : Nat, ((ops[j]?).map fun o => depB o i).getD false = true → listed[i]? = some true) → wpAny P .any ops Q fuel listed a w := by
  obtain ⟨k1, k2, k3⟩ := regionOk_spec hok
  have ready_iff : ∀ (listed : Array Bool) (i : Nat), listed.size = ops.size → i ∈ Region.ready .any ops listed → listed[i]? = some false ∧ ∃ o, ops[i]? = some o ∧ ∀ e ∈ o.after, Region.binds .any e = true → listed[e.on]? = some true := by
    intro listed i hz hi
    unfold Region.ready at hi
    obtain ⟨h1, h2⟩ := List.mem_filter.1 hi
    have hlt := List.mem_range.1 h1
    obtain ⟨h3, h4⟩ := Bool.and_eq_true_iff.1 h2
    have ho : ops[i]? = some ops[i] := Array.getElem?_eq_getElem hlt
    refine ⟨?_, ops[i], ho, fun e he hb => ?_⟩
    · rw [Array.getElem?_eq_getElem (by omega)]
      simp [Array.getD, hz, hlt] at h3
      rw [h3]
    · rw [ho] at h4
      have h5 := Array.all_eq_true_iff_forall_mem.1 (show (ops[i].after.all fun e => !Region.binds .any e || listed.getD e.on false) = true from h4) e he
      rw [hb] at h5
      simp only [Bool.not_true, Bool.false_or] at h5
      rw [Array.getD_eq_getD_getElem?] at h5
      cases hx : listed[e.on]? with
      | none => rw [hx] at h5; simp at h5
      | some b => rw [hx] at h5; simp at h5; rw [h5]
  have all_done : ∀ listed : Array Bool, listed.size = ops.size → Region.ready .any ops listed = [] → ∀ i, i < ops.size → listed[i]? = some true := by
    intro listed hz hr i
    induction i using Nat.strongRecOn with
    | ind i ih =>
      intro hi
      have hli : listed[i]? = some listed[i] := Array.getElem?_eq_getElem (by omega)
      by_cases hb : listed[i] = true
      · rw [hli, hb]
      · exfalso
        have : i ∈ Region.ready .any ops listed := by
          unfold Region.ready
          refine List.mem_filter.2 ⟨List.mem_range.2 hi, ?_⟩
          have hb' : listed[i] = false := by simpa using hb
          have ho : ops[i]? = some ops[i] := Array.getElem?_eq_getElem hi
          refine Bool.and_eq_true_iff.2 ⟨by simp [Array.getD, hz, hi, hb'], ?_⟩
          rw [ho]
          show (ops[i].after.all _) = true
          refine Array.all_eq_true_iff_forall_mem.2 fun e he => ?_
          by_cases hbd : Region.binds .any e = true
          · have hlt := k3 i ops[i] e ho he hbd
            have := ih e.on hlt (by omega)
            rw [Array.getD_eq_getD_getElem?, this]
            simp
          · simp [hbd]
        rw [hr] at this
        cases this
  intro fuel
  induction fuel with
  | zero =>
    intro listed a w hz hc h hO hDone
    have hall : ∀ i, i < ops.size → listed[i]? = some true := fun i hi => by
      have hli : listed[i]? = some listed[i] := Array.getElem?_eq_getElem (by omega)
      by_cases hb : listed[i] = true
      · rw [hli, hb]
      · exfalso
        have hb' : listed[i] = false := by simpa using hb
        have : false ∈ listed.toList := by
          rw [← hb']; simp
        have := List.count_pos_iff.2 this
        omega
    refine ⟨?_, fin a w ⟨h.bel, h.defers, h.size, h.out, fun j d hj hd => h.got j d (hall j hj) hd⟩⟩
    apply List.eq_nil_iff_forall_not_mem.2
    intro i hi
    obtain ⟨h1, o, ho, _⟩ := ready_iff listed i hz hi
    rw [hall i (Array.getElem?_eq_some_iff.1 ho).1] at h1
    cases h1
  | succ fuel ih =>
    intro listed a w hz hc h hO hDone
    refine ⟨fun hr => fin a w ⟨h.bel, h.defers, h.size, h.out, fun j d hj hd => h.got j d (all_done listed hz hr j hj) hd⟩, fun i hi => ?_⟩
    obtain ⟨h1, o, ho, hdep⟩ := ready_iff listed i hz hi
    have hc' : (listed.setIfInBounds i true).toList.count false ≤ fuel := by
      have := count_set_true listed.toList i (by simpa using h1)
      simp only [Array.toList_setIfInBounds]
      omega
    have hat : RegAt ops a0 w0 V (fun j => depB o j = true) a w := ⟨h.bel, h.defers, h.size, h.out, fun j d hj hd => by
      unfold depB at hj
      obtain ⟨e, he, hb⟩ := Array.any_eq_true'.1 hj
      simp only [Bool.and_eq_true, beq_iff_eq] at hb
      exact h.got j d (by rw [← hb.2]; exact hdep e he hb.1) hd⟩
    refine wpOp_step ho fun K hK => ?_
    have hold : ∀ t, keptB ops i t = true → a.tmps[t]? = a0.tmps[t]? := fun t ht => hO t fun j hj => by
      have hjs : j < ops.size := by
        rcases Nat.lt_or_ge j ops.size with h | h
        · exact h
        · unfold dstAt at hj; rw [Array.getElem?_eq_none h] at hj; cases hj
      have hb := List.all_eq_true.1 ht j (List.mem_range.2 hjs)
      rw [hj] at hb
      simp only [bne_self_eq_false, Bool.false_or, Bool.or_eq_true, beq_iff_eq] at hb
      have hlj : listed[j]? = some listed[j] := Array.getElem?_eq_getElem (by omega)
      cases hv : listed[j]
      · rw [hlj, hv]
      · exfalso
        rcases hb with hb | hb
        · subst hb; rw [h1] at hlj; injection hlj with hlj; rw [← hlj] at hv; cases hv
        · have hready := hDone j (by rw [hlj, hv])
          have := hready i hb
          rw [this] at h1
          cases h1
    have hdi : dstAt ops i = o.dst := by unfold dstAt; rw [ho]; rfl
    have hput : ∀ d, o.dst = some d → d < a.tmps.size := fun d hd => by rw [h.size]; exact k1 i o d ho hd
    refine step i o ho a w hat hold K fun v w' hb hv => hK _ _ (ih _ _ _ (by simpa using hz) hc' ?_ ?_ ?_)
    · refine ⟨h.bel.trans (hb.mono h.bel.size), ?_, ?_, fun t ht => ?_, fun j d hj hd => ?_⟩
      · rw [← h.defers]; unfold Act.put; cases o.dst <;> rfl
      · rw [← h.size]; unfold Act.put; cases o.dst <;> simp
      · rw [← h.out t ht]
        have hne : o.dst ≠ some t := by
          have := Array.all_eq_true_iff_forall_mem.1 ht o (Array.mem_of_getElem? ho)
          simpa using this
        unfold Act.put
        cases hd : o.dst with
        | none => rfl
        | some d =>
          have : d ≠ t := fun e => hne (by rw [hd, e])
          simp [Array.getElem?_setIfInBounds, this]
      · by_cases hji : j = i
        · subst hji
          have hd' : o.dst = some d := by rw [← hdi, hd]
          refine ⟨v, ?_, hv⟩
          unfold Act.put
          rw [hd']
          simp [Array.getElem?_setIfInBounds, hput d hd']
        · rw [Array.getElem?_setIfInBounds_ne (fun e => hji e.symm)] at hj
          obtain ⟨u, hu, hvu⟩ := h.got j d hj hd
          refine ⟨u, ?_, stab j u w w' hb hvu⟩
          rw [← hu]
          unfold Act.put
          cases hd' : o.dst with
          | none => rfl
          | some d' =>
            have : d' ≠ d := fun e => hji (k2 j i d hd (by rw [hdi, hd', e]))
            simp [Array.getElem?_setIfInBounds, this]
    · intro t ht
      have hne : o.dst ≠ some t := fun e => by
        have := ht i (by rw [hdi, e])
        rw [Array.getElem?_setIfInBounds_self_of_lt (by rw [hz]; exact (Array.getElem?_eq_some_iff.1 ho).1)] at this
        cases this
      rw [← hO t (fun j hj => by
        have := ht j hj
        have hji : j ≠ i := fun e => hne (by rw [← hdi, ← e, hj])
        rwa [Array.getElem?_setIfInBounds_ne (fun e => hji e.symm)] at this)]
      unfold Act.put
      cases hd : o.dst with
      | none => rfl
      | some d =>
        have : d ≠ t := fun e => hne (by rw [hd, e])
        simp [Array.getElem?_setIfInBounds, this]
    · intro j hj k hk
      by_cases hki : k = i
      · subst hki; rw [Array.getElem?_setIfInBounds_self_of_lt (by rw [hz]; exact (Array.getElem?_eq_some_iff.1 ho).1)]
      · rw [Array.getElem?_setIfInBounds_ne (fun e => hki e.symm)]
        by_cases hji : j = i
        · subst hji
          rw [ho] at hk
          have hk' : depB o k = true := hk
          unfold depB at hk'
          obtain ⟨e, he, hb2⟩ := Array.any_eq_true'.1 hk'
          simp only [Bool.and_eq_true, beq_iff_eq] at hb2
          rw [← hb2.2]
          exact hdep e he hb2.1
        · rw [Array.getElem?_setIfInBounds_ne (fun e => hji e.symm)] at hj
          exact hDone j hj k hk

/-- The steps of all operations, one by one. -/
def stepsFrom2 (P : Program) (ops : Array Oper) (Q : Exit → Act → World → Prop) (a0 : Act) (w0 : World) (V : Nat → Value → World → Prop) (k : Nat) (l : List Oper) : Prop := ∀ i o, l[i]? = some o → StepOk2 P ops Q a0 w0 V (k + i) o
theorem steps2_nil {k : Nat} : stepsFrom2 P ops Q a0 w0 V k [] := fun i o h => by simp at h
theorem steps2_cons {k k' : Nat} {o : Oper} {l : List Oper} (hk : k' = k + 1) (h : StepOk2 P ops Q a0 w0 V k o) (t : stepsFrom2 P ops Q a0 w0 V k' l) : stepsFrom2 P ops Q a0 w0 V k (o :: l) := fun i o' h' => by
  cases i with
  | zero => simp at h'; subst h'; exact h
  | succ i => subst hk; have := t i o' (by simpa using h'); rwa [Nat.add_assoc, Nat.add_comm 1 i] at this

theorem wp_region_inv2 {id : Nat} {l : List Oper} {a : Act} {w : World} (V : Nat → Value → World → Prop) (hm : P.follows .mixedOrders = true) (hok : regionOk l.toArray a.tmps.size = true)
    (stab : ∀ i v w w', Below w.heap.size w w' → V i v w → V i v w')
    (step : stepsFrom2 P l.toArray Q a w.drew V 0 l) (fin : ∀ a' w', RegAt l.toArray a w.drew V (fun j => j < l.toArray.size) a' w' → Q .normal a' w') : (Code.region id l.toArray true).wp P Q a w :=
  wp_region_any hm (reg_any2 (w0 := w.drew) hok stab (fun i o h => by have := step i o (by simpa using h); rwa [Nat.zero_add] at this) fin _ _ a w.drew (by simp) (by simp) ⟨Below.refl _ _, rfl, rfl, fun _ _ => rfl, fun j d hj _ => by
    rw [Array.getElem?_replicate] at hj; split at hj <;> cases hj⟩ (fun _ _ => rfl) (fun j hj => by
    rw [Array.getElem?_replicate] at hj; split at hj <;> cases hj))
end
end Go.Proofs.YtakilnpfhljgfaaGreat

/- super: Format. No condition. -/
namespace Go.Proofs.YtakilnpfhljgfaaGreat.SU
set_option maxRecDepth 100000
open Go.RowKit Go.Proofs.YtakilnpfhljgfaaGreat.WI Go.Proofs.YtakilnpfhljgfaaGreat.SM Go.Proofs.YtakilnpfhljgfaaGreat.DK
set_option linter.unusedVariables false
set_option linter.unusedSimpArgs false

/-- Nodes 0 .. k-1 fenced, their words 0. -/
def fK (D : Dk) : Nat → Dk
  | 0 => D
  | k + 1 => putK (fenceK (fK D k) (k : Int)) (k : Int) 0
theorem fK_ok {D : Dk} (h1 : D.on = true) (h2 : D.armed = false) : ∀ k, k ≤ 17 → (fK D k).on = true ∧ (fK D k).armed = false ∧ (fK D k).room = D.room ∧ (fK D k).last = D.last := by
  intro k
  induction k with
  | zero => intro _; exact ⟨h1, h2, rfl, rfl⟩
  | succ k ih =>
    intro hk
    obtain ⟨a, b, c, d⟩ := ih (by omega)
    have hin : inNode (k : Int) = true := by unfold inNode; simp; omega
    have hf := (fence_good (n := (k : Int)) a hin b).2
    have hp := (put_good (D := fenceK (fK D k) (k : Int)) (n := (k : Int)) (by rw [hf]; exact a) hin (by rw [hf]; exact b) 0).2
    rw [show fK D (k + 1) = putK (fenceK (fK D k) (k : Int)) (k : Int) 0 from rfl, hp, hf]
    exact ⟨a, b, c, d⟩
theorem fK_step {D : Dk} (h1 : D.on = true) (h2 : D.armed = false) (k : Nat) (hk : k < 17) : fenceE (fK D k) (k : Int) = 0 ∧ fenceE (fenceK (fK D k) (k : Int)) (k : Int) = 0 := by
  obtain ⟨a, b, c, d⟩ := fK_ok h1 h2 k (by omega)
  have hin : inNode (k : Int) = true := by unfold inNode; simp; omega
  have hf := fence_good (n := (k : Int)) a hin b
  exact ⟨hf.1, (put_good (D := fenceK (fK D k) (k : Int)) (n := (k : Int)) (by rw [hf.2]; exact a) hin (by rw [hf.2]; exact b) 0).1⟩
def admD (D : Dk) : Dk := admitK (fK D 17) 0 (D.last + 1)
def formatK (D : Dk) (s : Sh) : Dk := fenceK (layK (admD D) (D.last + 1) s) 0
theorem adm_ok {D : Dk} (h1 : D.on = true) (h2 : D.armed = false) (hl : 0 ≤ D.last) : admitE (fK D 17) 0 (D.last + 1) = 0 ∧ Up (admD D) (D.last + 1) ∧ (admD D).room = D.room := by
  obtain ⟨a, b, c, d⟩ := fK_ok h1 h2 17 (by omega)
  have ha := admit_good (n := 0) (e := D.last + 1) a rfl b (by rw [d]; omega)
  unfold admD
  rw [ha.2]
  exact ⟨ha.1, ⟨a, b, by simp [updF], by omega⟩, c⟩
set_option maxHeartbeats 8000000 in
theorem format_any {w0 W : World} {g N : Nat} {D : Dk} (h : Own w0 g N D W) (s : Sh) (h1 : D.on = true) (h2 : D.armed = false) (hl : 0 ≤ D.last ∧ D.last < 18446744073709551615) (hg : Good s) (hr : sizeI s ≤ (D.room : Int)) (hN : N ≤ 1000000) :
    Calls Tryz.prog 28 #[.pointer (some ⟨g, 0, none⟩), sagg s] W fun x w' => x = .returned (.int .i64 0) ∧ Own w0 g (N + 16 * zRounds (sizeI s) + 16) (formatK D s) w' := by
  have hv := (valid_iff s).2 hg
  have kv := fun W => valid_any s W
  rw [hv] at kv
  obtain ⟨q1, q2, q3⟩ := adm_ok h1 h2 hl.1
  obtain ⟨_, _, _, r4⟩ := fK_ok h1 h2 17 (by omega)
  have ks := fun W => size_ok s hg W
  have kst := fun k hk => fK_step h1 h2 k hk
  have klast := fun W (h : Own2 w0 g N (fK D 17) W.heap.size TSh (scells s) W) => own_last h.own
  have kadm := fun W x (h : Own2 w0 g N (fK D 17) x TSh (scells s) W) => own2_admit h 0 (D.last + 1) (by omega)
  rw [q1] at kadm
  have klay := fun W (h : Own w0 g N (admD D) W) => lay_any h (D.last + 1) s q2 hg (by rw [q3]; exact hr) hN
  obtain ⟨_, _, _, u4, _⟩ := lay_parts q2 hg (by rw [q3]; exact hr)
  have hzr : zRounds (sizeI s) ≤ 1251 := by have := size_b hg; unfold zRounds; omega
  have kfen := fun W (h : Own w0 g (N + 16 * zRounds (sizeI s) + 16) (layK (admD D) (D.last + 1) s) W) => own_fence h 0 (by omega)
  rw [(fence_good (n := 0) u4.on rfl u4.armed).1] at kfen
  have hrm : decide ((D.room : Int) < sizeI s) = false := by simp; omega
  have KST := Lib.hid kst
  have hfk : formatK D s = fenceK (layK (admD D) (D.last + 1) s) 0 := rfl
  rw [hfk]
  rw [show admitK (fK D 17) 0 (D.last + 1) = admD D from rfl] at kadm
  have HO := Lib.hid (Own.beside h TSh (scells s))
  unfold sagg at *
  generalize layK (admD D) (D.last + 1) s = DL at *
  generalize admD D = DA at *
  generalize zRounds (sizeI s) = Z at *
  generalize sizeI s = SZ at *
  clear h hv hg kst hfk u4 q1 q2 q3 hzr klast
  go_enter Tryz.func28, Tryz.ntmps28
  go_upto_region 1 with fail
  obtain ⟨W1, hW1⟩ : ∃ W1, W.alloc (.cells (scells s) TSh) = W1 := ⟨_, rfl⟩
  obtain ⟨x0, hx0⟩ : ∃ x, W.heap.size = x := ⟨_, rfl⟩
  have HO0 := HO.out
  rw [hW1, hx0] at HO0
  rw [show W.alloc (.cells #[.int .i64 s.n, .int .i64 s.b, .int .i64 s.l, .int .i64 s.c, .int .i64 s.e] TSh) = W1 from hW1, hx0]
  have b1 := HO0.blk
  have y0 : W1.cell? ⟨x0, 0, none⟩ = some (.int .i64 s.n) := b1.cell 0
  have y1 : W1.cell? ⟨x0, 1, none⟩ = some (.int .i64 s.b) := b1.cell 1
  have y2 : W1.cell? ⟨x0, 2, none⟩ = some (.int .i64 s.l) := b1.cell 2
  have y3 : W1.cell? ⟨x0, 3, none⟩ = some (.int .i64 s.c) := b1.cell 3
  have y4 : W1.cell? ⟨x0, 4, none⟩ = some (.int .i64 s.e) := b1.cell 4
  have HOA := Lib.hid HO0
  clear HO0 hW1 hx0 HO b1
  go_upto_region 3 with (go_at_call 55; refine (kv _).mono ?_; rintro x w1 ⟨rfl, hb1⟩; have HO1 := Lib.hid (HOA.out.then_ hb1); clear hb1 y0 y1 y2 y3 y4)
  refine wp_region_inv (fun i' v' w' => ([(fun v' _ => v' = (.pointer (some ⟨g, 0, none⟩))), (fun v' _ => v' = (.int .i64 (D.room : Int))), (fun v' _ => v' = (.agg #[.int .i64 s.n, .int .i64 s.b, .int .i64 s.l, .int .i64 s.c, .int .i64 s.e])), (fun v' _ => v' = (.int .i64 SZ)), (fun v' _ => v' = (.bool false)), (fun v' _ => v' = (.bool false))] : List (Value → World → Prop)).getD i' (fun _ _ => True) v' w') (by kernel_rfl) (by kernel_rfl) (stab_list (by
      repeat (first | exact allStab_nil | refine allStab_cons (stab_eq _) ?_ | refine allStab_cons (stab_slice _ _) ?_))) ?_ ?_
  · refine steps_cons rfl ?_ ?_
    · intro a w hR K hK
      have e0 : a.tmps.getD 0 undef = (.pointer (some ⟨g, 0, none⟩)) := hR.old 0 (by kernel_rfl) rfl
      rw [if_pos (wanted_none rfl)]
      have hB := hR.bel
      clear hR
      go_simp
      exact hK _ _ (belowSame _) rfl
    refine steps_cons rfl ?_ ?_
    · intro a w hR K hK
      obtain ⟨v20, e20, _, q20⟩ := hR.val 0 20 (by kernel_rfl) (by kernel_rfl)
      obtain rfl : v20 = (.pointer (some ⟨g, 0, none⟩)) := q20
      rw [if_pos (wanted_none rfl)]
      have ho := HO1.out.then_ (belowUndrew hR.bel)
      have kl := own_sectors ho.own
      clear hR ho
      go_simp
      refine kl.mono ?_
      rintro e w' ⟨rfl, rfl⟩
      exact hK _ _ (belowSame _) rfl
    refine steps_cons rfl ?_ ?_
    · intro a w hR K hK
      have e3 : a.tmps.getD 3 undef = (.pointer (some ⟨x0, 0, none⟩)) := hR.old 3 (by kernel_rfl) rfl
      rw [if_pos (wanted_none rfl)]
      have bk := (HO1.out.then_ (belowUndrew hR.bel)).blk
      have hc0 : w.cell? ⟨x0, 0, none⟩ = some (.int .i64 s.n) := bk.cell 0
      have hc1 : w.cell? ⟨x0, 1, none⟩ = some (.int .i64 s.b) := bk.cell 1
      have hc2 : w.cell? ⟨x0, 2, none⟩ = some (.int .i64 s.l) := bk.cell 2
      have hc3 : w.cell? ⟨x0, 3, none⟩ = some (.int .i64 s.c) := bk.cell 3
      have hc4 : w.cell? ⟨x0, 4, none⟩ = some (.int .i64 s.e) := bk.cell 4
      clear hR bk
      go_simp
      exact hK _ _ (belowSame _) rfl
    refine steps_cons rfl ?_ ?_
    · intro a w hR K hK
      obtain ⟨v22, e22, _, q22⟩ := hR.val 2 22 (by kernel_rfl) (by kernel_rfl)
      obtain rfl : v22 = (.agg #[.int .i64 s.n, .int .i64 s.b, .int .i64 s.l, .int .i64 s.c, .int .i64 s.e]) := q22
      rw [if_pos (wanted_none rfl)]
      have hB := hR.bel
      clear hR
      go_simp
      refine (ks _).mono ?_
      rintro e w' ⟨rfl, hw⟩
      exact hK _ _ (by first | exact belowOfEq hw | exact hw) rfl
    refine steps_cons rfl ?_ ?_
    · intro a w hR K hK
      obtain ⟨v21, e21, _, q21⟩ := hR.val 1 21 (by kernel_rfl) (by kernel_rfl)
      obtain rfl : v21 = (.int .i64 (D.room : Int)) := q21
      obtain ⟨v23, e23, _, q23⟩ := hR.val 3 23 (by kernel_rfl) (by kernel_rfl)
      obtain rfl : v23 = (.int .i64 SZ) := q23
      rw [if_pos (wanted_none rfl)]
      have hB := hR.bel
      clear hR
      go_simp
      exact hK _ _ (belowSame _) rfl
    refine steps_cons rfl ?_ ?_
    · intro a w hR K hK
      obtain ⟨v24, e24, _, q24⟩ := hR.val 4 24 (by kernel_rfl) (by kernel_rfl)
      obtain rfl : v24 = (.bool false) := q24
      rw [if_pos (wanted_none rfl)]
      have hB := hR.bel
      clear hR
      go_simp
      exact hK _ _ (belowSame _) rfl
    exact steps_nil
  · intro a' w' hF
    obtain ⟨v19, e19, _, q19⟩ := hF.val 5 19 (by decide) (by kernel_rfl)
    obtain rfl : v19 = (.bool false) := q19
    have hB := belowUndrew hF.bel
    have hf := hF.frame
    rw [show dsts _ = [20, 21, 22, 23, 24, 19] from by kernel_rfl] at hf
    obtain ⟨z20, h20⟩ : ∃ z, a'.tmps.getD 20 undef = z := ⟨_, rfl⟩
    obtain ⟨z21, h21⟩ : ∃ z, a'.tmps.getD 21 undef = z := ⟨_, rfl⟩
    obtain ⟨z22, h22⟩ : ∃ z, a'.tmps.getD 22 undef = z := ⟨_, rfl⟩
    obtain ⟨z23, h23⟩ : ∃ z, a'.tmps.getD 23 undef = z := ⟨_, rfl⟩
    obtain ⟨z24, h24⟩ : ∃ z, a'.tmps.getD 24 undef = z := ⟨_, rfl⟩
    simp only [List.foldl_cons, List.foldl_nil, h20, h21, h22, h23, h24, e19] at hf
    simp only [List.setIfInBounds_toArray, List.set_cons_zero, List.set_cons_succ] at hf
    clear hF e19 h20 h21 h22 h23 h24
    subst hf
    have HO2 := Lib.hid (HO1.out.then_ hB)
    clear hB HO1
    go_wp2_with fail
    go_loopw [5, 6, 7] (fun i _ _ wr => ∃ k : Nat, i = .int .i64 (k : Int) ∧ k ≤ 17 ∧ Hid (Own2 w0 g N (fK D k) x0 TSh (scells s) wr)) (fun i _ _ _ => 17 - (intOf i).toNat)
    case atStart => exact ⟨0, rfl, by omega, HO2⟩
    case round =>
      obtain ⟨k, rfl, hk, HW⟩ := hrel
      by_cases hlt : k < 17
      · obtain ⟨f1, f2⟩ := KST.out k hlt
        have kf := own2_fence HW.out (k : Int) (by omega)
        rw [f1] at kf
        have kp := fun W (h : Own2 w0 g N (fenceK (fK D k) (k : Int)) x0 TSh (scells s) W) => own2_put h (k : Int) 0 (by omega)
        rw [f2] at kp
        have e1 : IntKind.i64.wrap ((k : Int) + 1) = (k : Int) + 1 := IntWalk.i64_in _ (by omega)
        have hs : fK D (k + 1) = putK (fenceK (fK D k) (k : Int)) (k : Int) 0 := rfl
        have HS := Lib.hid hs
        clear f1 f2 hs
        go_wp2_with (first
          | (go_at_call 58; refine kf.mono ?_; rintro x w4 ⟨rfl, ho4⟩; have H4 := Lib.hid ho4; clear ho4)
          | (go_at_call 59; refine (kp _ H4.out).mono ?_; rintro x w5 ⟨rfl, ho5⟩; have H5 := Lib.hid ho5; clear ho5))
        go_roundw
        case rel => exact ⟨k + 1, by go_num, by omega, Lib.hid (by rw [HS.out]; exact H5.out)⟩
        case measure => simp [intOf]; omega
      · obtain rfl : k = 17 := by omega
        have kla := own_last HW.out.own
        rw [r4] at kla
        have e1 : IntKind.u64.wrap (D.last + 1) = D.last + 1 := IntWalk.u64_in _ (by omega)
        go_wp2_with (first
          | (go_at_call 60; refine kla.mono ?_; rintro x w4 ⟨rfl, rfl⟩)
          | (go_at_call 30; refine (kadm _ _ HW.out).mono ?_; rintro x w5 ⟨rfl, ho5⟩; have bk := ho5.blk; have c0 : w5.cell? ⟨x0, 0, none⟩ = some (.int .i64 s.n) := bk.cell 0; have c1 : w5.cell? ⟨x0, 1, none⟩ = some (.int .i64 s.b) := bk.cell 1; have c2 : w5.cell? ⟨x0, 2, none⟩ = some (.int .i64 s.l) := bk.cell 2; have c3 : w5.cell? ⟨x0, 3, none⟩ = some (.int .i64 s.c) := bk.cell 3; have c4 : w5.cell? ⟨x0, 4, none⟩ = some (.int .i64 s.e) := bk.cell 4; have H5 := Lib.hid ho5; clear ho5 bk)
          | (go_at_call 61; refine (klay _ H5.out.own).mono ?_; rintro x w6 ⟨rfl, ho6⟩; have H6 := Lib.hid ho6; clear ho6)
          | (go_at_call 58; refine (kfen _ H6.out).mono ?_; rintro x w7 ⟨rfl, ho7⟩; have H7 := Lib.hid ho7; clear ho7))
        exact end_ret (t := 4) (v := .int .i64 0) (by kernel_rfl) rfl rfl ⟨rfl, H7.out⟩
end Go.Proofs.YtakilnpfhljgfaaGreat.SU

/- super: Load. No condition. -/
namespace Go.Proofs.YtakilnpfhljgfaaGreat.SU
set_option maxRecDepth 100000
open Go.RowKit Go.Proofs.YtakilnpfhljgfaaGreat.WI Go.Proofs.YtakilnpfhljgfaaGreat.SM Go.Proofs.YtakilnpfhljgfaaGreat.DK
set_option linter.unusedVariables false
set_option linter.unusedSimpArgs false

theorem own_read2 {w0 W : World} {g N : Nat} {D : Dk} (h : Own w0 g N D W) (q n : Int) : Calls Tryz.prog 62 #[.pointer (some ⟨g, 0, none⟩), .int .i64 q, .int .i64 n] W fun e' w' => e' = .returned (.tuple #[.string (readT D q n), .int .i64 (readE D q n)]) ∧ Own w0 g N D w' ∧ Below W.heap.size W w' := by
  obtain ⟨p, h1, h2⟩ := h
  exact (read_any h1 q n).mono fun _ _ ⟨he, ho⟩ => ⟨he, Own.then_ ⟨p, h1, h2⟩ ho, ho⟩
set_option maxHeartbeats 8000000 in
theorem load_any {w0 W : World} {g N : Nat} {D : Dk} (h : Own w0 g N D W) (s : Sh) (hg : Good s) (hr : sizeI s ≤ (D.room : Int)) (h1 : readE D 0 1 = 0) (h2 : readT D 0 1 = superT s) :
    Calls Tryz.prog 29 #[.pointer (some ⟨g, 0, none⟩)] W fun x w' => x = .returned (.tuple #[sagg s, .int .i64 0]) ∧ Own w0 g N D w' ∧ Below W.heap.size W w' := by
  have kr := fun W (h : Own w0 g N D W) => own_read2 h 0 1
  rw [h1, h2] at kr
  have kg := fun W => get_ok s hg W
  have ks := fun W => size_ok s hg W
  have hrm : decide ((D.room : Int) < sizeI s) = false := by simp; omega
  unfold sagg at *
  generalize sizeI s = SZ at *
  generalize superT s = ST at *
  have HO := Lib.hid h
  have hbn := Blk.new W TLa #[.int .i64 0, .int .i64 0, .int .i64 0, .int .i64 0, .int .i64 0]
  have hb0 := (Below.refl _ W).alloc (Nat.le_refl _) (.cells #[.int .i64 0, .int .i64 0, .int .i64 0, .int .i64 0, .int .i64 0] TLa)
  obtain ⟨W0, hW0⟩ : ∃ W0, W.alloc (.cells #[.int .i64 0, .int .i64 0, .int .i64 0, .int .i64 0, .int .i64 0] TLa) = W0 := ⟨_, rfl⟩
  rw [hW0] at hbn hb0
  have hoa := h.then_ hb0
  obtain ⟨r0, hr0⟩ : ∃ r, W.heap.size = r := ⟨_, rfl⟩
  rw [hr0] at hbn
  have HW0 := Lib.hid hW0
  have HR0 := Lib.hid hr0
  have HBN := Lib.hid hbn
  have HB0 := Lib.hid hb0
  have HOA := Lib.hid hoa
  clear hbn hb0 hW0 hr0 h hg hoa hr h1 h2
  go_enter Tryz.func29, Tryz.ntmps29
  go_upto_region 1 with fail
  rw [show W.alloc (.cells #[.int .i64 0, .int .i64 0, .int .i64 0, .int .i64 0, .int .i64 0] TLa) = W0 from HW0.out, HR0.out]
  go_upto_region 5 with (first
    | (go_at_call 62; refine (kr _ HOA.out).mono ?_; rintro x w1 ⟨rfl, ho1, hb1⟩; have HO1 := Lib.hid ho1; have HB1 := Lib.hid hb1; clear ho1 hb1)
    | (go_at_call 63; refine (kg _).mono ?_; rintro x w2 ⟨rfl, hb2⟩; have HO2 := Lib.hid (HO1.out.then_ hb2); have HB2 := Lib.hid (belowThen HB1.out hb2); clear hb2))
  have hx6 := Blk.new w2 TSh (scells s)
  have ho6 := HO2.out.then_ (belowNew (belowSame w2) (.cells (scells s) TSh))
  have hb6 := belowNew HB2.out (.cells (scells s) TSh)
  obtain ⟨W6, hW6⟩ : ∃ W6, w2.alloc (.cells (scells s) TSh) = W6 := ⟨_, rfl⟩
  obtain ⟨x6, hx⟩ : ∃ x, w2.heap.size = x := ⟨_, rfl⟩
  rw [hW6] at hx6 ho6 hb6
  rw [hx] at hx6
  rw [show w2.alloc (.cells #[.int .i64 s.n, .int .i64 s.b, .int .i64 s.l, .int .i64 s.c, .int .i64 s.e] TSh) = W6 from hW6, hx]
  have HX6 := Lib.hid hx6
  have HO6 := Lib.hid ho6
  have HB6 := Lib.hid hb6
  clear hx6 ho6 hb6 hW6 hx kr kg
  refine wp_region_inv (fun i' v' w' => ([(fun v' _ => v' = (.int .i64 0)), (fun v' _ => v' = (.bool false)), (fun v' _ => v' = (.bool false)), (fun v' _ => v' = (.pointer (some ⟨g, 0, none⟩))), (fun v' _ => v' = (.int .i64 (D.room : Int))), (fun v' _ => v' = (.agg #[.int .i64 s.n, .int .i64 s.b, .int .i64 s.l, .int .i64 s.c, .int .i64 s.e])), (fun v' _ => v' = (.int .i64 SZ)), (fun v' _ => v' = (.bool false)), (fun v' _ => v' = (.bool false))] : List (Value → World → Prop)).getD i' (fun _ _ => True) v' w') (by kernel_rfl) (by kernel_rfl) (stab_list (by
      repeat (first | exact allStab_nil | refine allStab_cons (stab_eq _) ?_ | refine allStab_cons (stab_slice _ _) ?_))) ?_ ?_
  · refine steps_cons rfl ?_ ?_
    · intro a w hR K hK
      have e5 : a.tmps.getD 5 undef = (.int .i64 0) := hR.old 5 (by kernel_rfl) rfl
      rw [if_pos (wanted_none rfl)]
      have hB := hR.bel
      clear hR
      go_simp
      exact hK _ _ (belowSame _) rfl
    refine steps_cons rfl ?_ ?_
    · intro a w hR K hK
      obtain ⟨v21, e21, _, q21⟩ := hR.val 0 21 (by kernel_rfl) (by kernel_rfl)
      obtain rfl : v21 = (.int .i64 0) := q21
      rw [if_pos (wanted_none rfl)]
      have hB := hR.bel
      clear hR
      go_simp
      exact hK _ _ (belowSame _) rfl
    refine steps_cons rfl ?_ ?_
    · intro a w hR K hK
      obtain ⟨v22, e22, _, q22⟩ := hR.val 1 22 (by kernel_rfl) (by kernel_rfl)
      obtain rfl : v22 = (.bool false) := q22
      rw [if_pos (wanted_none rfl)]
      have hB := hR.bel
      clear hR
      go_simp
      exact hK _ _ (belowSame _) rfl
    refine steps_cons rfl ?_ ?_
    · intro a w hR K hK
      have e0 : a.tmps.getD 0 undef = (.pointer (some ⟨g, 0, none⟩)) := hR.old 0 (by kernel_rfl) rfl
      rw [if_pos (hR.wants (o := _) rfl (by kernel_rfl : depB _ 2 = true) (by kernel_rfl : dstAt _ 2 = some 23) (fun _ h => h))]
      have hB := hR.bel
      clear hR
      go_simp
      exact hK _ _ (belowSame _) rfl
    refine steps_cons rfl ?_ ?_
    · intro a w hR K hK
      obtain ⟨v24, e24, _, q24⟩ := hR.val 3 24 (by kernel_rfl) (by kernel_rfl)
      obtain rfl : v24 = (.pointer (some ⟨g, 0, none⟩)) := q24
      rw [if_pos (hR.wants (o := _) rfl (by kernel_rfl : depB _ 2 = true) (by kernel_rfl : dstAt _ 2 = some 23) (fun _ h => h))]
      have ho := HO6.out.then_ (belowUndrew hR.bel)
      have kl := own_sectors ho
      clear hR ho
      go_simp
      refine kl.mono ?_
      rintro e w' ⟨rfl, rfl⟩
      exact hK _ _ (belowSame _) rfl
    refine steps_cons rfl ?_ ?_
    · intro a w hR K hK
      have e6 : a.tmps.getD 6 undef = (.pointer (some ⟨x6, 0, none⟩)) := hR.old 6 (by kernel_rfl) rfl
      rw [if_pos (hR.wants (o := _) rfl (by kernel_rfl : depB _ 2 = true) (by kernel_rfl : dstAt _ 2 = some 23) (fun _ h => h))]
      have bk := HX6.out.below (belowUndrew hR.bel) HX6.out.lt
      have hc0 : w.cell? ⟨x6, 0, none⟩ = some (.int .i64 s.n) := bk.cell 0
      have hc1 : w.cell? ⟨x6, 1, none⟩ = some (.int .i64 s.b) := bk.cell 1
      have hc2 : w.cell? ⟨x6, 2, none⟩ = some (.int .i64 s.l) := bk.cell 2
      have hc3 : w.cell? ⟨x6, 3, none⟩ = some (.int .i64 s.c) := bk.cell 3
      have hc4 : w.cell? ⟨x6, 4, none⟩ = some (.int .i64 s.e) := bk.cell 4
      clear hR bk
      go_simp
      exact hK _ _ (belowSame _) rfl
    refine steps_cons rfl ?_ ?_
    · intro a w hR K hK
      obtain ⟨v26, e26, _, q26⟩ := hR.val 5 26 (by kernel_rfl) (by kernel_rfl)
      obtain rfl : v26 = (.agg #[.int .i64 s.n, .int .i64 s.b, .int .i64 s.l, .int .i64 s.c, .int .i64 s.e]) := q26
      rw [if_pos (hR.wants (o := _) rfl (by kernel_rfl : depB _ 2 = true) (by kernel_rfl : dstAt _ 2 = some 23) (fun _ h => h))]
      have hB := hR.bel
      clear hR
      go_simp
      refine (ks _).mono ?_
      rintro e w' ⟨rfl, hw⟩
      exact hK _ _ (by first | exact belowOfEq hw | exact hw) rfl
    refine steps_cons rfl ?_ ?_
    · intro a w hR K hK
      obtain ⟨v25, e25, _, q25⟩ := hR.val 4 25 (by kernel_rfl) (by kernel_rfl)
      obtain rfl : v25 = (.int .i64 (D.room : Int)) := q25
      obtain ⟨v27, e27, _, q27⟩ := hR.val 6 27 (by kernel_rfl) (by kernel_rfl)
      obtain rfl : v27 = (.int .i64 SZ) := q27
      rw [if_pos (hR.wants (o := _) rfl (by kernel_rfl : depB _ 2 = true) (by kernel_rfl : dstAt _ 2 = some 23) (fun _ h => h))]
      have hB := hR.bel
      clear hR
      go_simp
      exact hK _ _ (belowSame _) rfl
    refine steps_cons rfl ?_ ?_
    · intro a w hR K hK
      obtain ⟨v23, e23, _, q23⟩ := hR.val 2 23 (by kernel_rfl) (by kernel_rfl)
      obtain rfl : v23 = (.bool false) := q23
      obtain ⟨v28, e28, _, q28⟩ := hR.val 7 28 (by kernel_rfl) (by kernel_rfl)
      obtain rfl : v28 = (.bool false) := q28
      rw [if_pos (wanted_none rfl)]
      have hB := hR.bel
      clear hR
      go_simp
      exact hK _ _ (belowSame _) rfl
    exact steps_nil
  · intro a' w' hF
    obtain ⟨v29, e29, _, q29⟩ := hF.val 8 29 (by decide) (by kernel_rfl)
    obtain rfl : v29 = (.bool false) := q29
    have hB := belowUndrew hF.bel
    have hf := hF.frame
    rw [show dsts _ = [21, 22, 23, 24, 25, 26, 27, 28, 29] from by kernel_rfl] at hf
    obtain ⟨z21, h21⟩ : ∃ z, a'.tmps.getD 21 undef = z := ⟨_, rfl⟩
    obtain ⟨z22, h22⟩ : ∃ z, a'.tmps.getD 22 undef = z := ⟨_, rfl⟩
    obtain ⟨z23, h23⟩ : ∃ z, a'.tmps.getD 23 undef = z := ⟨_, rfl⟩
    obtain ⟨z24, h24⟩ : ∃ z, a'.tmps.getD 24 undef = z := ⟨_, rfl⟩
    obtain ⟨z25, h25⟩ : ∃ z, a'.tmps.getD 25 undef = z := ⟨_, rfl⟩
    obtain ⟨z26, h26⟩ : ∃ z, a'.tmps.getD 26 undef = z := ⟨_, rfl⟩
    obtain ⟨z27, h27⟩ : ∃ z, a'.tmps.getD 27 undef = z := ⟨_, rfl⟩
    obtain ⟨z28, h28⟩ : ∃ z, a'.tmps.getD 28 undef = z := ⟨_, rfl⟩
    simp only [List.foldl_cons, List.foldl_nil, h21, h22, h23, h24, h25, h26, h27, h28, e29] at hf
    simp only [List.setIfInBounds_toArray, List.set_cons_zero, List.set_cons_succ] at hf
    clear hF e29 h21 h22 h23 h24 h25 h26 h27 h28
    subst hf
    have bx := HX6.out.below hB HX6.out.lt
    have x0 : w'.cell? ⟨x6, 0, none⟩ = some (.int .i64 s.n) := bx.cell 0
    have x1 : w'.cell? ⟨x6, 1, none⟩ = some (.int .i64 s.b) := bx.cell 1
    have x2 : w'.cell? ⟨x6, 2, none⟩ = some (.int .i64 s.l) := bx.cell 2
    have x3 : w'.cell? ⟨x6, 3, none⟩ = some (.int .i64 s.c) := bx.cell 3
    have x4 : w'.cell? ⟨x6, 4, none⟩ = some (.int .i64 s.e) := bx.cell 4
    have hb9 := HB6.out.trans (hB.mono HB6.out.size)
    have br := HBN.out.below hb9 HBN.out.lt
    have y0 : w'.cell? ⟨r0, 0, none⟩ = some (.int .i64 0) := br.cell 0
    have y1 : w'.cell? ⟨r0, 1, none⟩ = some (.int .i64 0) := br.cell 1
    have y2 : w'.cell? ⟨r0, 2, none⟩ = some (.int .i64 0) := br.cell 2
    have y3 : w'.cell? ⟨r0, 3, none⟩ = some (.int .i64 0) := br.cell 3
    have y4 : w'.cell? ⟨r0, 4, none⟩ = some (.int .i64 0) := br.cell 4
    have f0 := br.frozen 0
    have f1 := br.frozen 1
    have f2 := br.frozen 2
    have f3 := br.frozen 3
    have f4 := br.frozen 4
    have HBR := Lib.hid br
    have HB9 := Lib.hid hb9
    clear hB bx hb9 br
    go_wp2_with fail
    have b4 := (((((HBR.out.set_ 0 (.int .i64 s.n)).set_ 1 (.int .i64 s.b)).set_ 2 (.int .i64 s.l)).set_ 3 (.int .i64 s.c)).set_ 4 (.int .i64 s.e))
    have hr0 : W.heap.size ≤ r0 := by rw [HR0.out]; exact Nat.le_refl _
    have hA : Below W.heap.size W w' := HB0.out.trans (HB9.out.mono HB0.out.size)
    have hE : Below W.heap.size W (((((w'.setCell ⟨r0, 0, none⟩ (.int .i64 s.n)).setCell ⟨r0, 1, none⟩ (.int .i64 s.b)).setCell ⟨r0, 2, none⟩ (.int .i64 s.l)).setCell ⟨r0, 3, none⟩ (.int .i64 s.c)).setCell ⟨r0, 4, none⟩ (.int .i64 s.e)) := (((((hA.setCell (p := ⟨r0, 0, none⟩) hr0 (.int .i64 s.n)).setCell (p := ⟨r0, 1, none⟩) hr0 (.int .i64 s.b)).setCell (p := ⟨r0, 2, none⟩) hr0 (.int .i64 s.l)).setCell (p := ⟨r0, 3, none⟩) hr0 (.int .i64 s.c)).setCell (p := ⟨r0, 4, none⟩) hr0 (.int .i64 s.e))
    have d0 : (((((w'.setCell ⟨r0, 0, none⟩ (.int .i64 s.n)).setCell ⟨r0, 1, none⟩ (.int .i64 s.b)).setCell ⟨r0, 2, none⟩ (.int .i64 s.l)).setCell ⟨r0, 3, none⟩ (.int .i64 s.c)).setCell ⟨r0, 4, none⟩ (.int .i64 s.e)).cell? ⟨r0, 0, none⟩ = some (.int .i64 s.n) := b4.cell 0
    have d1 : (((((w'.setCell ⟨r0, 0, none⟩ (.int .i64 s.n)).setCell ⟨r0, 1, none⟩ (.int .i64 s.b)).setCell ⟨r0, 2, none⟩ (.int .i64 s.l)).setCell ⟨r0, 3, none⟩ (.int .i64 s.c)).setCell ⟨r0, 4, none⟩ (.int .i64 s.e)).cell? ⟨r0, 1, none⟩ = some (.int .i64 s.b) := b4.cell 1
    have d2 : (((((w'.setCell ⟨r0, 0, none⟩ (.int .i64 s.n)).setCell ⟨r0, 1, none⟩ (.int .i64 s.b)).setCell ⟨r0, 2, none⟩ (.int .i64 s.l)).setCell ⟨r0, 3, none⟩ (.int .i64 s.c)).setCell ⟨r0, 4, none⟩ (.int .i64 s.e)).cell? ⟨r0, 2, none⟩ = some (.int .i64 s.l) := b4.cell 2
    have d3 : (((((w'.setCell ⟨r0, 0, none⟩ (.int .i64 s.n)).setCell ⟨r0, 1, none⟩ (.int .i64 s.b)).setCell ⟨r0, 2, none⟩ (.int .i64 s.l)).setCell ⟨r0, 3, none⟩ (.int .i64 s.c)).setCell ⟨r0, 4, none⟩ (.int .i64 s.e)).cell? ⟨r0, 3, none⟩ = some (.int .i64 s.c) := b4.cell 3
    have d4 : (((((w'.setCell ⟨r0, 0, none⟩ (.int .i64 s.n)).setCell ⟨r0, 1, none⟩ (.int .i64 s.b)).setCell ⟨r0, 2, none⟩ (.int .i64 s.l)).setCell ⟨r0, 3, none⟩ (.int .i64 s.c)).setCell ⟨r0, 4, none⟩ (.int .i64 s.e)).cell? ⟨r0, 4, none⟩ = some (.int .i64 s.e) := b4.cell 4
    exact bodyPost_ret (v := .tuple #[.agg #[.int .i64 s.n, .int .i64 s.b, .int .i64 s.l, .int .i64 s.c, .int .i64 s.e], .int .i64 0]) (by simp [results, Tryz.results29, go_sem, d0, d1, d2, d3, d4]) rfl ⟨rfl, HO.out.then_ hE, hE⟩
end Go.Proofs.YtakilnpfhljgfaaGreat.SU

/- commonslaw9: Shape, alive. No condition. -/
namespace Go.Proofs.YtakilnpfhljgfaaGreat.SU
set_option maxRecDepth 100000
open Go.RowKit Go.Proofs.YtakilnpfhljgfaaGreat.MI Go.Proofs.YtakilnpfhljgfaaGreat.WI Go.Proofs.YtakilnpfhljgfaaGreat.SM Go.Proofs.YtakilnpfhljgfaaGreat.DK
set_option linter.unusedVariables false
set_option linter.unusedSimpArgs false

theorem settle_one_now (X : Dk) (b : ByteArray) : (settleK (oneK X 0 0 b) 0).now 0 = some b := by
  show putF X.now 0 b 0 = some b
  unfold putF
  exact if_pos rfl
theorem format_up {D : Dk} {s : Sh} (h1 : D.on = true) (h2 : D.armed = false) (hl : 0 ≤ D.last) (hg : Good s) (hr : sizeI s ≤ (D.room : Int)) :
    (formatK D s).on = true ∧ (formatK D s).armed = false ∧ (formatK D s).room = D.room ∧ (formatK D s).now 0 = some (superT s) := by
  obtain ⟨_, q2, q3⟩ := adm_ok h1 h2 hl
  obtain ⟨_, _, u3, u4, u5⟩ := lay_parts q2 hg (by rw [q3]; exact hr)
  unfold formatK
  rw [(fence_good (n := 0) u4.on rfl u4.armed).2]
  refine ⟨u4.on, u4.armed, u5.trans q3, ?_⟩
  show (layK (admD D) (D.last + 1) s).now 0 = _
  rw [u3]
  exact settle_one_now _ _
theorem format_read {D : Dk} {s : Sh} (h1 : D.on = true) (h2 : D.armed = false) (hl : 0 ≤ D.last) (hg : Good s) (hr : sizeI s ≤ (D.room : Int)) :
    readE (formatK D s) 0 1 = 0 ∧ readT (formatK D s) 0 1 = superT s := by
  obtain ⟨a, b, c, d⟩ := format_up h1 h2 hl hg hr
  have hb := size_b hg
  have he := (read_good (D := formatK D s) (a := 0) a (k := 1) (by omega) ⟨Int.le_refl 0, by rw [c]; omega⟩).1
  exact read_one he (by rw [d]; rfl)
def sh0 : Sh := ⟨2, 10, 8, 4, 32⟩
theorem good0 : Good sh0 := ⟨by decide, by decide, by decide, by decide, by decide⟩
theorem shape_any (w : World) : Calls Tryz.prog 25 #[] w fun e w' => e = .returned (sagg sh0) ∧ Below w.heap.size w w' := by
  unfold sagg sh0
  have hbn := Blk.new w TSh #[.int .i64 2, .int .i64 10, .int .i64 8, .int .i64 4, .int .i64 32]
  go_enter Tryz.func25, Tryz.ntmps25
  go_wp2_with fail
  have d0 := hbn.cell 0
  have d1 := hbn.cell 1
  have d2 := hbn.cell 2
  have d3 := hbn.cell 3
  have d4 := hbn.cell 4
  simp at d0 d1 d2 d3 d4
  exact bodyPost_ret (v := .agg #[.int .i64 2, .int .i64 10, .int .i64 8, .int .i64 4, .int .i64 32]) (by simp [results, Tryz.results25, go_sem, d0, d1, d2, d3, d4]) rfl ⟨rfl, belowNew (belowSame w) _⟩
end Go.Proofs.YtakilnpfhljgfaaGreat.SU

/- What a formatted disk holds: plain. No condition. -/
namespace Go.Proofs.YtakilnpfhljgfaaGreat.BK
set_option maxRecDepth 100000
open Go.RowKit Go.Proofs.YtakilnpfhljgfaaGreat.MI Go.Proofs.YtakilnpfhljgfaaGreat.WI Go.Proofs.YtakilnpfhljgfaaGreat.SM Go.Proofs.YtakilnpfhljgfaaGreat.DK Go.Proofs.YtakilnpfhljgfaaGreat.SU
set_option linter.unusedVariables false
set_option linter.unusedSimpArgs false

/-- Whatever lasts or waits was written ahead of now; what waits is of node 0; all but the first sector is bytes 0. -/
structure Calm (D : Dk) : Prop where
  lasts : ∀ x r, D.lasts x = some r → r.s ≤ (D.seq : Int)
  waits : ∀ r ∈ D.waits, r.s ≤ (D.seq : Int)
  node : ∀ r ∈ D.waits, r.n = 0
  now : ∀ x, 1 ≤ x → (D.now x).getD zsec = zsec
  stays : D.stays = []
theorem Calm.like {D D' : Dk} (h : Calm D) (e1 : D'.lasts = D.lasts) (e2 : D'.waits = D.waits) (e3 : D'.now = D.now) (e4 : D'.seq = D.seq) (e5 : D'.stays = D.stays) : Calm D' :=
  ⟨by rw [e1, e4]; exact h.lasts, by rw [e2, e4]; exact h.waits, by rw [e2]; exact h.node, by rw [e3]; exact h.now, e5.trans h.stays⟩
theorem calm_new (n : Nat) : Calm (newK n) := ⟨fun _ _ h => (by cases h), fun _ h => (by cases h), fun _ h => (by cases h), fun _ _ => rfl, rfl⟩
theorem keepL_s {L : Int → Option Wr} {w : Wr} {m : Int} (hL : ∀ x r, L x = some r → r.s ≤ m) (hw : w.s ≤ m) : ∀ x r, keepL L w x = some r → r.s ≤ m := by
  intro x r h
  unfold keepL at h
  split at h
  · by_cases hx : x = w.a
    · subst hx; rw [putF_same] at h; injection h with h; subst h; exact hw
    · rw [putF_other _ _ hx] at h; exact hL x r h
  · exact hL x r h
theorem setL_s {L : Int → Option Wr} {ws : List Wr} {n m : Int} (hL : ∀ x r, L x = some r → r.s ≤ m) (hw : ∀ r ∈ ws, r.s ≤ m) : ∀ k, k ≤ ws.length → ∀ x r, setL L ws n k x = some r → r.s ≤ m
  | 0, _ => hL
  | k + 1, hk => by
    unfold setL
    split
    · exact keepL_s (setL_s hL hw k (by omega)) (hw _ (getD_mem (by omega)))
    · exact setL_s hL hw k (by omega)
theorem Calm.settle {D : Dk} (h : Calm D) (n : Int) : Calm (settleK D n) :=
  ⟨setL_s h.lasts h.waits _ (Nat.le_refl _), fun r hr => h.waits r (List.mem_filter.1 hr).1, fun r hr => h.node r (List.mem_filter.1 hr).1, h.now, h.stays⟩
theorem Calm.one {D : Dk} (h : Calm D) (a : Int) (b : ByteArray) (hb : 1 ≤ a → b = zsec) : Calm (oneK D 0 a b) := by
  refine ⟨fun x r hr => ?_, fun r hr => ?_, fun r hr => ?_, fun x hx => ?_, h.stays⟩
  · have := h.lasts x r hr
    show r.s ≤ ((D.seq + 1 : Nat) : Int)
    omega
  · rcases List.mem_append.1 hr with hr | hr
    · have := h.waits r hr
      show r.s ≤ ((D.seq + 1 : Nat) : Int)
      omega
    · simp at hr
      subst hr
      show (D.seq : Int) + 1 ≤ ((D.seq + 1 : Nat) : Int)
      omega
  · rcases List.mem_append.1 hr with hr | hr
    · exact h.node r hr
    · simp at hr; subst hr; rfl
  · show (putF D.now a b x).getD zsec = zsec
    by_cases e : x = a
    · subst e; rw [putF_same, hb hx]; rfl
    · rw [putF_other _ _ e]; exact h.now x hx
theorem Calm.many {D : Dk} (h : Calm D) (a : Int) (b : ByteArray) : ∀ c : Nat, (∀ i, i < c → DK.sect b i = zsec) → Calm (manyK D 0 a b c)
  | 0, _ => h
  | c + 1, hb => (h.many a b c (fun i hi => hb i (by omega))).one _ _ (fun _ => hb c (by omega))
theorem repeat_rep (k : Nat) : Lib.repeatL [0] k = List.replicate k (0 : UInt8) := by
  induction k with
  | zero => rfl
  | succ k ih => rw [List.replicate_succ]; show [0] ++ Lib.repeatL [0] k = _; rw [ih]; rfl
theorem zeros_sect (n i : Nat) (h : i < n) : DK.sect (zerosT (64 * n)) i = zsec := by
  unfold DK.sect zerosT zsec
  apply ByteArray.ext
  apply Array.ext'
  rw [ByteArray.data_extract, Array.toList_extract, List.extract_eq_take_drop]
  simp only [repeat_rep, List.drop_replicate, List.take_replicate]
  congr 1
  omega
theorem calm_z {D : Dk} {e size : Int} (hc : Calm D) (h : Up D e) (hr : size ≤ (D.room : Int)) : ∀ k : Nat, 16 * ((k : Int) - 1) < size → Calm (zK D e size k) ∧ (zK D e size k).last = D.last ∧ (zK D e size k).table = D.table := by
  intro k
  induction k with
  | zero => intro _; exact ⟨hc, rfl, rfl⟩
  | succ k ih =>
    intro hk
    obtain ⟨i1, i2, i3⟩ := ih (by omega)
    obtain ⟨j1, j2⟩ := z_up h hr k (by omega)
    have hs := (z_step (size := size) j1 k (by omega) (by rw [j2]; exact hr)).2
    obtain ⟨f1, f2, f3, f4, f5, _⟩ := many_fields (zK D e size k) 0 (16 * (k : Int)) (zerosT (64 * zLen size k)) (zLen size k)
    show Calm (writeK (zK D e size k) 0 e (16 * (k : Int)) (zerosT (64 * zLen size k))) ∧ (writeK (zK D e size k) 0 e (16 * (k : Int)) (zerosT (64 * zLen size k))).last = _ ∧ (writeK (zK D e size k) 0 e (16 * (k : Int)) (zerosT (64 * zLen size k))).table = _
    rw [hs]
    exact ⟨i1.many _ _ _ (fun i hi => zeros_sect _ _ hi), f5.trans i2, f3.trans i3⟩
theorem calm_f {D : Dk} (hc : Calm D) (h1 : D.on = true) (h2 : D.armed = false) : ∀ k, k ≤ 17 → Calm (fK D k) := by
  intro k
  induction k with
  | zero => intro _; exact hc
  | succ k ih =>
    intro hk
    obtain ⟨a, b, c, d⟩ := fK_ok h1 h2 k (by omega)
    have hin : inNode (k : Int) = true := by unfold inNode; simp; omega
    have hf := (fence_good (n := (k : Int)) a hin b).2
    have hp := (put_good (D := fenceK (fK D k) (k : Int)) (n := (k : Int)) (by rw [hf]; exact a) hin (by rw [hf]; exact b) 0).2
    rw [show fK D (k + 1) = putK (fenceK (fK D k) (k : Int)) (k : Int) 0 from rfl, hp, hf]
    exact ((ih (by omega)).settle _).like rfl rfl rfl rfl rfl
theorem settle_none {D : Dk} (h : ∀ r ∈ D.waits, r.n = 0) : (settleK D 0).waits = [] := by
  show D.waits.filter _ = []
  rw [List.filter_eq_nil_iff]
  intro r hr
  simp [h r hr]
/-- What a formatted disk holds. -/
theorem format_calm {D : Dk} {s : Sh} (hc : Calm D) (h1 : D.on = true) (h2 : D.armed = false) (hl : 0 ≤ D.last) (hg : SU.Good s) (hr : sizeI s ≤ (D.room : Int)) :
    Calm (formatK D s) ∧ (formatK D s).waits = [] ∧ (formatK D s).last = D.last + 1 := by
  obtain ⟨q1, q2, q3⟩ := adm_ok h1 h2 hl
  obtain ⟨_, _, u3, u4, u5⟩ := lay_parts q2 hg (by rw [q3]; exact hr)
  obtain ⟨a, b, c, d⟩ := fK_ok h1 h2 17 (by omega)
  have ha := (admit_good (n := 0) (e := D.last + 1) a rfl b (by rw [d]; omega)).2
  have hA : Calm (admD D) := by
    unfold admD
    rw [ha]
    exact (calm_f hc h1 h2 17 (by omega)).like rfl rfl rfl rfl rfl
  have hlA : (admD D).last = D.last + 1 := by unfold admD; rw [ha]
  have hb := size_b hg
  obtain ⟨z1, z2, z3⟩ := calm_z (size := sizeI s) hA q2 (by rw [q3]; exact hr) (zRounds (sizeI s)) (by unfold zRounds; omega)
  have hL : Calm (layK (admD D) (D.last + 1) s) := by
    rw [u3]
    exact ((z1.settle 0).one 0 _ (fun h => by omega)).settle 0
  have hW : (layK (admD D) (D.last + 1) s).waits = [] := by
    rw [u3]
    exact settle_none (((z1.settle 0).one 0 _ (fun h => by omega)).node)
  have hlL : (layK (admD D) (D.last + 1) s).last = D.last + 1 := by
    rw [u3]
    exact z2.trans hlA
  have hf := (fence_good (n := 0) u4.on rfl u4.armed).2
  unfold formatK
  rw [hf]
  refine ⟨(hL.settle 0).like rfl rfl rfl rfl rfl, settle_none hL.node, hlL⟩
/-- The disk that the laws begin with. -/
def DF : Dk := formatK (newK 37) sh0
def drOf (D : Dk) : Dk := { D with table := updF D.table 1 9, last := 9 }
def DR : Dk := drOf DF
theorem z37 : sizeI sh0 = 37 := by decide +kernel
theorem df_room : sizeI sh0 ≤ ((newK 37).room : Int) := by rw [z37]; decide
theorem df_up : DF.on = true ∧ DF.armed = false ∧ DF.room = 37 ∧ DF.now 0 = some (superT sh0) := by
  obtain ⟨a, b, c, d⟩ := format_up (D := newK 37) (s := sh0) rfl rfl (by decide) good0 df_room
  exact ⟨a, b, c, d⟩
theorem df_calm : Calm DF ∧ DF.waits = [] ∧ DF.last = 1 := by
  obtain ⟨a, b, c⟩ := format_calm (D := newK 37) (s := sh0) (calm_new 37) rfl rfl (by decide) good0 df_room
  exact ⟨a, b, c⟩
theorem df_admit : admitE DF 1 9 = 0 ∧ admitK DF 1 9 = DR := admit_good df_up.1 rfl df_up.2.1 (by rw [df_calm.2.2]; decide)
structure ReadyD (D : Dk) : Prop where
  on : D.on = true
  armed : D.armed = false
  room : D.room = 37
  table : D.table 1 = 9
  waits : D.waits = []
  calm : Calm D
theorem ready_of {D : Dk} (h1 : D.on = true) (h2 : D.armed = false) (h3 : D.room = 37) (h4 : D.waits = []) (h5 : Calm D) : ReadyD (drOf D) := ⟨h1, h2, h3, by show updF D.table 1 9 1 = 9; exact updF_same _ _ _, h4, h5.like rfl rfl rfl rfl rfl⟩
theorem dr_ready : ReadyD DR := ready_of df_up.1 df_up.2.1 df_up.2.2.1 df_calm.2.1 df_calm.1
section
variable {w w' : World} {B B' g N : Nat} {p : Pl} {D : Dk}
/-- A disk of which a cut would keep nothing stays what it is while nothing of it is turned. -/
theorem disk_keeps {S : Nat → Prop} (h : DiskAt w B g p N D) (h0 : D.stays = []) (hk : Keeps S w w') (hn : Apart (fp g p) S) : DiskAt w' B g p N D := by
  have h1 := h.stays
  rw [h0] at h1
  have hz : p.sn = 0 := by have := h1.1; simp at this; omega
  refine ⟨h.blk.keeps hk (fun hs => hn g (.inl rfl) hs), ?_, ?_, own_keeps h.waits hk (fun k hk' hs => hn k (.inr (.inr (.inr (by rw [own_blk] at hk'; exact hk')))) hs), ?_, h.sn, h.far, fun k hk' => ⟨trivial, Nat.lt_of_lt_of_le (h.spl k hk').2 hk.size⟩, h.geg, h.gen, h.gel, h.ne, h.seq, h.sane⟩
  · obtain ⟨n, h1, h2⟩ := h.now; exact ⟨n, h1, h2.keeps hk (fun hs => hn _ (.inr (.inl rfl)) hs)⟩
  · obtain ⟨n, h1, h2⟩ := h.lasts; exact ⟨n, h1, h2.keeps hk (fun hs => hn _ (.inr (.inr (.inl rfl))) hs)⟩
  · rw [h0, hz]; exact Lies.nil
theorem disk_low (h : DiskAt w B g p N D) (hB : B' ≤ B) : DiskAt w B' g p N D :=
  ⟨h.blk, h.now, h.lasts, own_base h.waits (fun k hk => by have := (h.waits.lt k hk).1; omega), h.stays, h.sn, h.far, h.spl, by have := h.geg; omega, by have := h.gen; omega, by have := h.gel; omega, h.ne, h.seq, h.sane⟩
end
end Go.Proofs.YtakilnpfhljgfaaGreat.BK

/- The document's own disk: a record of what it holds; node, spend, May, Admit, keep, Barrier, Fence. On and not armed. No condition. -/
namespace Go.Proofs.YtakilnpfhljgfaaGreat.RD
set_option maxRecDepth 100000
open Go.RowKit Go.Proofs.YtakilnpfhljgfaaGreat.DK
set_option linter.unusedVariables false
set_option linter.unusedSimpArgs false

abbrev TRD : TypeId := 70
abbrev TRW : TypeId := 106
structure Rw where
  n : Int
  a : Int
  d : ByteArray
  l : Bool
def rwval (x : Rw) : List Value := [.int .i64 x.n, .int .i64 x.a, .string x.d, .bool x.l]
theorem rwval_len (x : Rw) : (rwval x).length = 4 := rfl
structure Rk where
  room : Int
  L : List Rw
  table : Int → Int
  words : Int → Int
  last : Int
/-- The cells of a disk that is on and not armed. -/
def rcells (R : Rk) (lv : Value) : Array Value :=
  #[.int .i64 R.room, lv, .bool false,
    uv (R.table 0), uv (R.table 1), uv (R.table 2), uv (R.table 3), uv (R.table 4), uv (R.table 5), uv (R.table 6), uv (R.table 7), uv (R.table 8), uv (R.table 9), uv (R.table 10), uv (R.table 11), uv (R.table 12), uv (R.table 13), uv (R.table 14), uv (R.table 15), uv (R.table 16),
    uv (R.words 0), uv (R.words 1), uv (R.words 2), uv (R.words 3), uv (R.words 4), uv (R.words 5), uv (R.words 6), uv (R.words 7), uv (R.words 8), uv (R.words 9), uv (R.words 10), uv (R.words 11), uv (R.words 12), uv (R.words 13), uv (R.words 14), uv (R.words 15), uv (R.words 16),
    uv R.last, .bool false, .int .i64 0, .slice none 0 0]
def RdAt (w : World) (B r : Nat) (R : Rk) : Prop :=
  ∃ a c, Blk w r TRD (rcells R (.slice a R.L.length c)) ∧ w.ownsRow B TRW 4 (.slice a R.L.length c) R.L.length (R.L.flatMap rwval) ∧ B ≤ r
def ROwn (w0 : World) (r : Nat) (R : Rk) (W : World) : Prop := RdAt W w0.heap.size r R ∧ Below w0.heap.size w0 W
section
variable {w w' w0 W W' : World} {B r : Nat} {R : Rk}
theorem cell_rtab {n : Int} (h : inNode n = true) (lv : Value) : (rcells R lv)[3 + n.toNat]? = some (uv (R.table n)) := by
  rcases node_cases h with rfl | rfl | rfl | rfl | rfl | rfl | rfl | rfl | rfl | rfl | rfl | rfl | rfl | rfl | rfl | rfl | rfl <;> rfl
theorem set_rtab {n : Int} (h : inNode n = true) (v : Int) (lv : Value) : (rcells R lv).setIfInBounds (3 + n.toNat) (uv v) = rcells { R with table := updF R.table n v } lv := by
  rcases node_cases h with rfl | rfl | rfl | rfl | rfl | rfl | rfl | rfl | rfl | rfl | rfl | rfl | rfl | rfl | rfl | rfl | rfl <;> rfl
theorem set_rlast (v : Int) (lv : Value) : (rcells R lv).setIfInBounds 37 (uv v) = rcells { R with last := v } lv := rfl
theorem set_rl (lv v : Value) : (rcells R lv).setIfInBounds 1 v = rcells R v := rfl
theorem RdAt.keeps {S : Nat → Prop} (h : RdAt w B r R) (hk : Keeps S w w') (hr : ¬ S r) (ho : ∀ k, B ≤ k → ¬ S k) : RdAt w' B r R := by
  obtain ⟨a, c, h1, h2, h3⟩ := h
  exact ⟨a, c, h1.keeps hk hr, own_keeps h2 hk (fun k hk' => ho k (h2.lt k hk').1), h3⟩
theorem RdAt.old (h : RdAt w B r R) (hb : Below w.heap.size w w') : RdAt w' B r R :=
  h.keeps (Keeps.of_below hb (fun _ => False)) id (fun _ _ => id)
theorem RdAt.lt (h : RdAt w B r R) : r < w.heap.size := by obtain ⟨a, c, h1, _⟩ := h; exact h1.lt
theorem RdAt.ge (h : RdAt w B r R) : B ≤ r := by obtain ⟨a, c, _, _, h1⟩ := h; exact h1
theorem ROwn.then_ (h : ROwn w0 r R W) (hb : Below W.heap.size W W') : ROwn w0 r R W' := ⟨h.1.old hb, belowThen h.2 hb⟩
theorem rnode_any (n : Int) (w : World) : Calls Tryz.prog 68 #[.int .i64 n] w fun e w' => e = .returned (.bool (inNode n)) ∧ w' = w := by
  unfold inNode
  by_cases h1 : 0 ≤ n
  · by_cases h2 : n ≤ 16
    · have b1 : decide (0 ≤ n) = true := by simpa using h1
      have b2 : decide (n ≤ 16) = true := by simpa using h2
      rw [b1, b2]
      go_enter Tryz.func68, Tryz.ntmps68
      go_wp2
      go_ret
      exact ⟨rfl, rfl⟩
    · have b1 : decide (0 ≤ n) = true := by simpa using h1
      have b2 : decide (n ≤ 16) = false := by simpa using h2
      rw [b1, b2]
      go_enter Tryz.func68, Tryz.ntmps68
      go_wp2
      go_ret
      exact ⟨rfl, rfl⟩
  · have b1 : decide (0 ≤ n) = false := by simpa using h1
    rw [b1]
    go_enter Tryz.func68, Tryz.ntmps68
    go_wp2
    go_ret
    exact ⟨rfl, rfl⟩
theorem rspend_any (h : RdAt w B r R) : Calls Tryz.prog 69 #[.pointer (some ⟨r, 0, none⟩)] w fun e w' => e = .returned (.int .i64 0) ∧ w' = w := by
  obtain ⟨a, c, hb, _, _⟩ := h
  have c38 : w.cell? ⟨r, 38, none⟩ = some (.bool false) := hb.cell 38
  clear hb
  go_enter Tryz.func69, Tryz.ntmps69
  go_wp2
  go_ret
  exact ⟨rfl, rfl⟩
def rmayE (R : Rk) (n e : Int) : Int := if inNode n then (if e == 0 || !(R.table n == e) then 34 else 0) else 1
theorem rmay_any (h : RdAt w B r R) (n e : Int) : Calls Tryz.prog 70 #[.pointer (some ⟨r, 0, none⟩), .int .i64 n, .int .u64 e] w fun e' w' => e' = .returned (.int .i64 (rmayE R n e)) ∧ w' = w := by
  obtain ⟨a, c, hb, _, _⟩ := h
  have c2 : w.cell? ⟨r, 2, none⟩ = some (.bool false) := hb.cell 2
  have kn := fun W => rnode_any n W
  unfold rmayE
  cases hn : inNode n
  · rw [hn] at kn
    clear hb hn
    go_enter Tryz.func70, Tryz.ntmps70
    go_wp2_with (go_at_call 68; refine (kn _).mono ?_; rintro e w1 ⟨rfl, rfl⟩)
    go_ret
    exact ⟨rfl, rfl⟩
  · rw [hn] at kn
    have ct : w.cell? ⟨r, 3 + n.toNat, none⟩ = some (uv (R.table n)) := (hb.cell _).trans (cell_rtab hn _)
    obtain ⟨i1, i2, i3⟩ := node_nat hn
    obtain ⟨t, ht⟩ : ∃ t, R.table n = t := ⟨_, rfl⟩
    rw [ht] at ct ⊢
    clear ht hb hn
    by_cases he : e = 0
    · subst he
      go_enter Tryz.func70, Tryz.ntmps70
      go_wp2_with (go_at_call 68; refine (kn _).mono ?_; rintro e w1 ⟨rfl, rfl⟩)
      go_ret
      exact ⟨rfl, rfl⟩
    · have b0 : (e == 0) = false := by simpa using he
      by_cases ht : t = e
      · have b1 : (e == t) = true := by simp [ht]
        have b2 : (t == e) = true := by simp [ht]
        have hr : (if (e == 0 || !(t == e)) = true then (34 : Int) else 0) = 0 := by rw [b0, b2]; rfl
        rw [show (if true = true then (if (e == 0 || !(t == e)) = true then (34 : Int) else 0) else 1) = 0 from hr]
        clear hr b2 he
        subst ht
        go_enter Tryz.func70, Tryz.ntmps70
        go_wp2_with (go_at_call 68; refine (kn _).mono ?_; rintro e w1 ⟨rfl, rfl⟩)
        go_ret
        exact ⟨rfl, rfl⟩
      · have b1 : (e == t) = false := by simp; exact fun h => ht h.symm
        have b1' : ¬ e = t := fun h => ht h.symm
        have b2 : (t == e) = false := by simpa using ht
        have hr : (if (e == 0 || !(t == e)) = true then (34 : Int) else 0) = 34 := by rw [b0, b2]; rfl
        rw [show (if true = true then (if (e == 0 || !(t == e)) = true then (34 : Int) else 0) else 1) = 34 from hr]
        clear hr b2 ht
        go_enter Tryz.func70, Tryz.ntmps70
        go_wp2_with (go_at_call 68; refine (kn _).mono ?_; rintro e w1 ⟨rfl, rfl⟩)
        go_ret
        exact ⟨rfl, rfl⟩
def RdOut (w : World) (B r : Nat) (R : Rk) (w' : World) : Prop := RdAt w' B r R ∧ Keeps (fun k => B ≤ k) w w'
theorem RdOut.own (h : ROwn w0 r R W) {R' : Rk} (ho : RdOut W w0.heap.size r R' W') : ROwn w0 r R' W' := ⟨ho.1, ho.2.after h.2 (fun _ h => h) h.2.size⟩
theorem ra_any (h : RdAt w B r R) (n e : Int) (hn : inNode n = true) (he : R.last < e) : Calls Tryz.prog 32 #[.pointer (some ⟨r, 0, none⟩), .int .i64 n, .int .u64 e] w fun e' w' => e' = .returned (.int .i64 0) ∧ RdOut w B r { R with table := updF R.table n e, last := e } w' := by
  have kn := fun W => rnode_any n W
  have ks := rspend_any h
  rw [hn] at kn
  obtain ⟨a, c, hb, ho, hr⟩ := h
  have c2 : w.cell? ⟨r, 2, none⟩ = some (.bool false) := hb.cell 2
  have c37 : w.cell? ⟨r, 37, none⟩ = some (uv R.last) := hb.cell 37
  have ct : w.cell? ⟨r, 3 + n.toNat, none⟩ = some (uv (R.table n)) := (hb.cell _).trans (cell_rtab hn _)
  have ft := hb.frozen (3 + n.toNat)
  have cl : ∀ v, (w.setCell ⟨r, 3 + n.toNat, none⟩ v).cell? ⟨r, 37, none⟩ = some (uv R.last) := fun v => ((hb.set_ _ v).cell 37).trans (by
    have h1 : n.toNat < 17 := (node_nat hn).2.2
    rw [Array.getElem?_setIfInBounds_ne (by omega)]; rfl)
  have fl : ∀ v, (w.setCell ⟨r, 3 + n.toNat, none⟩ v).frozen? ⟨r, 37, none⟩ = false := fun v => (hb.set_ _ v).frozen 37
  obtain ⟨i1, i2, i3⟩ := node_nat hn
  obtain ⟨t, ht⟩ : ∃ t, R.last = t := ⟨_, rfl⟩
  rw [ht] at c37 cl he
  have b1 : decide (e ≤ t) = false := by simp; omega
  have hend : RdOut w B r { R with table := updF R.table n e, last := e } ((w.setCell ⟨r, 3 + n.toNat, none⟩ (uv e)).setCell ⟨r, 37, none⟩ (uv e)) := by
    have hbb := (hb.set_ (3 + n.toNat) (uv e)).set_ 37 (uv e)
    rw [set_rtab hn, set_rlast] at hbb
    refine ⟨⟨a, c, hbb, ?_, hr⟩, ?_⟩
    · exact own_keeps ho (keep2 w r _ 37 _ _) (fun k hk e' => own_ne ho hb (by decide) (by rw [hk, show k = r from e']))
    · exact (keep2 w r _ 37 _ _).mono (fun k _ e' => by rw [show k = r from e']; exact hr)
  have HE := Lib.hid hend
  clear hb ho hn he ht hend
  go_enter Tryz.func32, Tryz.ntmps32
  go_wp2_with (first
    | (go_at_call 68; refine (kn _).mono ?_; rintro e w1 ⟨rfl, rfl⟩)
    | (go_at_call 69; refine ks.mono ?_; rintro e w1 ⟨rfl, rfl⟩))
  go_ret
  exact ⟨rfl, HE.out⟩
end
end Go.Proofs.YtakilnpfhljgfaaGreat.RD

/- The document's own disk: keep, Barrier, Fence. On and not armed. No condition. -/
namespace Go.Proofs.YtakilnpfhljgfaaGreat.RD
set_option maxRecDepth 100000
open Go.RowKit Go.Proofs.YtakilnpfhljgfaaGreat.DK
set_option linter.unusedVariables false
set_option linter.unusedSimpArgs false

theorem infRW : (Tryz.prog.info? TRW).map (fun i => (i.zero, i.size, i.bytes)) = some (some (.agg #[.int .i64 0, .int .i64 0, .string ⟨#[]⟩, .bool false]), 4, 40) := by kernel_rfl
theorem rw_one (L : List Rw) : ∀ u ∈ L.flatMap rwval, u.oneCell' = true := by
  intro u hu
  obtain ⟨x, _, hx⟩ := List.mem_flatMap.1 hu
  simp [rwval] at hx
  rcases hx with rfl | rfl | rfl | rfl <;> rfl
theorem flat_len (L : List Rw) : (L.flatMap rwval).length = L.length * 4 := by
  induction L with
  | nil => rfl
  | cons x L ih => rw [List.flatMap_cons, List.length_append, ih, rwval_len, List.length_cons]; omega
theorem flat_at : ∀ (L : List Rw) (k : Nat) (x : Rw), L[k]? = some x → ∀ j, j < 4 → (L.flatMap rwval)[k * 4 + j]? = (rwval x)[j]?
  | [], k, x, h, _, _ => by simp at h
  | y :: L, 0, x, h, j, hj => by
    simp at h
    subst h
    rw [List.flatMap_cons, List.getElem?_append_left (by rw [rwval_len]; omega), Nat.zero_mul, Nat.zero_add]
  | y :: L, k + 1, x, h, j, hj => by
    rw [List.flatMap_cons, List.getElem?_append_right (by rw [rwval_len]; omega), rwval_len, show (k + 1) * 4 + j - 4 = k * 4 + j by omega]
    exact flat_at L k x (by simpa using h) j hj
theorem flat_bool : ∀ (L : List Rw) (k : Nat) (x : Rw), L[k]? = some x → (L.set k { x with l := true }).flatMap rwval = (L.flatMap rwval).set (k * 4 + 3) (.bool true)
  | [], k, x, h => by simp at h
  | y :: L, 0, x, h => by
    simp at h
    subst h
    rfl
  | y :: L, k + 1, x, h => by
    rw [List.set_cons_succ, List.flatMap_cons, List.flatMap_cons, flat_bool L k x (by simpa using h), List.set_append_right _ _ (by rw [rwval_len]; omega), rwval_len, show (k + 1) * 4 + 3 - 4 = k * 4 + 3 by omega]
def hit (n : Int) (x : Rw) : Rw := if x.n = n then { x with l := true } else x
def keepK (L : List Rw) (n : Int) (k : Nat) : List Rw := (L.take k).map (hit n) ++ L.drop k
theorem keepK_len (L : List Rw) (n : Int) (k : Nat) : (keepK L n k).length = L.length := by unfold keepK; rw [List.length_append, List.length_map, List.length_take, List.length_drop]; omega
theorem keepK_all (L : List Rw) (n : Int) : keepK L n L.length = L.map (hit n) := by unfold keepK; rw [List.take_length, List.drop_length, List.append_nil]
theorem keepK_zero (L : List Rw) (n : Int) : keepK L n 0 = L := rfl
theorem keepK_at (L : List Rw) (n : Int) (k : Nat) (x : Rw) (h : L[k]? = some x) : (keepK L n k)[k]? = some x := by
  have hk : k < L.length := (List.getElem?_eq_some_iff.1 h).1
  unfold keepK
  rw [List.getElem?_append_right (by rw [List.length_map, List.length_take]; omega), List.length_map, List.length_take, List.getElem?_drop, show k + (k - min k L.length) = k by omega, h]
theorem keepK_succ (L : List Rw) (n : Int) (k : Nat) (x : Rw) (h : L[k]? = some x) : keepK L n (k + 1) = (keepK L n k).set k (hit n x) := by
  have hk : k < L.length := (List.getElem?_eq_some_iff.1 h).1
  have hx : L[k] = x := by have := List.getElem?_eq_getElem hk; rw [h] at this; injection this with this; exact this.symm
  unfold keepK
  rw [List.set_append_right _ _ (by rw [List.length_map, List.length_take]; omega), List.length_map, List.length_take, show k - min k L.length = 0 by omega]
  rw [List.take_add_one, h, List.map_append, List.drop_eq_getElem_cons hk, hx]
  simp
theorem set_same {L : List Rw} {k : Nat} {x : Rw} (h : L[k]? = some x) : L.set k x = L := by
  obtain ⟨hk, he⟩ := List.getElem?_eq_some_iff.1 h
  rw [← he]
  exact List.set_getElem_self hk
section
variable {w w' w0 W W' : World} {B r : Nat} {R : Rk}
/-- What keep's rounds have. -/
def KeepRel (w : World) (B r : Nat) (R : Rk) (n : Int) (k : Nat) (wr : World) : Prop := RdOut w B r { R with L := keepK R.L n k } wr
set_option maxHeartbeats 2000000 in
theorem rkeep_any (h : RdAt w B r R) (n : Int) (hN : R.L.length ≤ 1000000) : Calls Tryz.prog 71 #[.pointer (some ⟨r, 0, none⟩), .int .i64 n] w fun e w' => e = .returned (.tuple #[]) ∧ RdOut w B r { R with L := R.L.map (hit n) } w' := by
  obtain ⟨i0, hi, hz0, hz1, hz2⟩ := info_parts infRW
  obtain ⟨a, c, hb, ho, hr⟩ := h
  have c1 : w.cell? ⟨r, 1, none⟩ = some (.slice a R.L.length c) := hb.cell 1
  have f1 := hb.frozen 1
  have hl := Lies.of_own ho
  have hBw : B ≤ w.heap.size := by have := hb.lt; omega
  have hne := own_ne ho hb (by decide)
  rw [own_blk] at hne
  have hstart : ∀ (a2 : Option Addr) (c2 : Nat) (w2 : World), w2.ownsRow B TRW 4 (.slice a2 R.L.length c2) R.L.length (R.L.flatMap rwval) → w.grownBy w2 none → ((Value.slice a2 0 0).ownBlock = none ∨ (Value.slice a2 0 0).ownBlock = some w.heap.size) →
      w2.cell? ⟨r, 1, none⟩ = some (.slice a R.L.length c) ∧ w2.frozen? ⟨r, 1, none⟩ = false ∧ KeepRel w B r R n 0 (w2.setCell ⟨r, 1, none⟩ (.slice a2 R.L.length c2)) := by
    intro a2 c2 w2 ho2 hg2 hat
    have hb2 := hb.grown hg2 (by simp)
    refine ⟨hb2.cell 1, hb2.frozen 1, ⟨a2, c2, ?_, ?_, hr⟩, ?_⟩
    · have := hb2.set_ 1 (.slice a2 R.L.length c2)
      rw [set_rl] at this
      exact this
    · refine own_keeps ho2 (keep1 w2 r 1 _) (fun k hk e => ?_)
      have e' : k = r := e
      rw [own_blk, e'] at hk
      rcases hat with h0 | h0
      · rw [h0] at hk; cases hk
      · rw [h0] at hk; injection hk with hk; have := hb.lt; omega
    · exact (((Keeps.refl (fun k => B ≤ k) w).grown hg2 (fun k e => by cases e)).setCell (fun _ => hr) _)
  have HST := Lib.hid hstart
  have HL := Lib.hid hl
  obtain ⟨len, hlen⟩ : ∃ len, R.L.length = len := ⟨_, rfl⟩
  have hone := rw_one R.L
  rw [hlen] at c1 hN HST HL
  have HLEN := Lib.hid hlen
  have hmx : 0 + len ≤ maxLen := by unfold maxLen; omega
  clear hb ho hl hstart hlen
  go_enter Tryz.func71, Tryz.ntmps71
  go_wp2_with (at_builtin; refine wpList_append_lie _ rfl _ _ 67 rfl B TRW i0 _ 4 40 Tryz.underlying67 hi hz0 hz1 hz2 rfl (by decide) none 0 0 [] rfl (World.ownsRow_nil _ _ _ _) a len c (R.L.flatMap rwval) rfl HL.out hone hmx (by omega) hBw ?_; intro a2 c2 w2 ho2 hg2 hat2; rw [Nat.zero_add] at ho2 ⊢; rw [List.nil_append] at ho2; obtain ⟨d1, d2, d3⟩ := HST.out a2 c2 w2 ho2 hg2 hat2; have H2 := Lib.hid d3; clear ho2 hg2 hat2 d3 c1)
  go_loopw [4] (fun i wr => ∃ k : Nat, k ≤ len ∧ i = .int .i64 (k : Int) ∧ Hid (KeepRel w B r R n k wr)) (fun i _ => len - (intOf i).toNat)
  case atStart => exact ⟨0, by omega, rfl, H2⟩
  case round =>
    obtain ⟨k, hk, rfl, HR⟩ := hrel
    obtain ⟨⟨a3, c3, b3, o3, _⟩, k3⟩ := HR.out
    have hkl : (keepK R.L n k).length = len := (keepK_len _ _ _).trans HLEN.out
    have y1 : wr.cell? ⟨r, 1, none⟩ = some (.slice a3 len c3) := by rw [← hkl]; exact b3.cell 1
    by_cases hlt : k < len
    · obtain ⟨x, hx⟩ : ∃ x, R.L[k]? = some x := ⟨_, List.getElem?_eq_getElem (by rw [HLEN.out]; exact hlt)⟩
      have hxk := keepK_at R.L n k x hx
      obtain ⟨b, cap, hv, _, hblt⟩ := o3.form (by show 0 < (keepK R.L n k).length; rw [hkl]; omega)
      injection hv with hv1 hv2 hv3
      subst hv1
      have z0 : wr.cell? ⟨b, k * 4, none⟩ = some (.int .i64 x.n) := by
        have h1 := o3.cellAt (k * 4 + 0) (by show _ < (keepK R.L n k).length * 4; rw [hkl]; omega)
        rw [show (({ R with L := keepK R.L n k } : Rk).L.flatMap rwval) = (keepK R.L n k).flatMap rwval from rfl, flat_at _ k x hxk 0 (by omega)] at h1
        exact h1
      have z3 : wr.cell? ⟨b, k * 4 + 3, none⟩ = some (.bool x.l) := by
        have h1 := o3.cellAt (k * 4 + 3) (by show _ < (keepK R.L n k).length * 4; rw [hkl]; omega)
        rw [show (({ R with L := keepK R.L n k } : Rk).L.flatMap rwval) = (keepK R.L n k).flatMap rwval from rfl, flat_at _ k x hxk 3 (by omega)] at h1
        exact h1
      have q3 := o3.frozenAt (k * 4 + 3)
      have hcc : len ≤ c3 := by
        rcases o3.2 with ⟨h', _⟩ | ⟨g', cap', cur, h', _, _, hnc, _⟩
        · simp at h'
        · injection h' with _ _ h3; rw [h3, ← hkl]; exact hnc
      have hstep : x.n = n → KeepRel w B r R n (k + 1) (wr.setCell ⟨b, k * 4 + 3, none⟩ (.bool true)) := by
        intro e
        have hbr : b ≠ r := fun e' => by
          have := own_ne o3 b3 (by decide)
          exact this (by rw [e']; rfl)
        have s1 := (o3.stored (k * 4 + 3) (.bool true)).1
        have hs : keepK R.L n (k + 1) = (keepK R.L n k).set k { x with l := true } := by rw [keepK_succ _ _ _ _ hx]; unfold hit; rw [if_pos e]
        refine ⟨⟨some ⟨b, 0, none⟩, c3, ?_, ?_, hr⟩, ?_⟩
        · have h1 := b3.far (p := ⟨b, k * 4 + 3, none⟩) (fun e' => hbr e'.symm) (.bool true)
          have h2 : rcells { R with L := keepK R.L n k } (.slice (some ⟨b, 0, none⟩) (keepK R.L n k).length c3) = rcells { R with L := keepK R.L n (k + 1) } (.slice (some ⟨b, 0, none⟩) (keepK R.L n (k + 1)).length c3) := by rw [keepK_len, keepK_len]; rfl
          rw [← h2]
          exact h1
        · show World.ownsRow _ _ _ _ (.slice _ (keepK R.L n (k + 1)).length _) (keepK R.L n (k + 1)).length ((keepK R.L n (k + 1)).flatMap rwval)
          rw [hs, List.length_set, flat_bool _ _ _ hxk]
          exact s1
        · refine k3.setCell (fun hlt' => ?_) _
          exact (o3.lt b rfl).1
      have hmiss : ¬ x.n = n → KeepRel w B r R n (k + 1) wr := by
        intro e
        have hs : keepK R.L n (k + 1) = keepK R.L n k := by rw [keepK_succ _ _ _ _ hx]; unfold hit; rw [if_neg e]; exact set_same hxk
        unfold KeepRel
        rw [hs]
        exact HR.out
      have HS := Lib.hid hstep
      have HM := Lib.hid hmiss
      obtain ⟨xn, hxn⟩ : ∃ v, x.n = v := ⟨_, rfl⟩
      rw [hxn] at z0 HS HM
      have n1 : decide ((k : Int) < (len : Int)) = true := by simp; omega
      have e1 : IntKind.i64.wrap ((k : Int) + 1) = (k : Int) + 1 := IntWalk.i64_in _ (by omega)
      clear hstep hmiss b3 o3 k3 hxk hx hxn hkl hv2 hv3 HST HL H2
      by_cases he : xn = n
      · subst he
        have H5 := Lib.hid (HS.out rfl)
        clear HS HM
        go_wp2_with fail
        go_roundw
        case rel => exact ⟨k + 1, by omega, by go_num, H5⟩
        case measure => simp [intOf]; omega
      · have m1 : (xn == n) = false := by simpa using he
        have H5 := Lib.hid (HM.out he)
        clear HS HM
        go_wp2_with fail
        go_roundw
        case rel => exact ⟨k + 1, by omega, by go_num, H5⟩
        case measure => simp [intOf]; omega
    · obtain rfl : k = len := by omega
      have hfin : RdOut w B r { R with L := R.L.map (hit n) } wr := by
        have h1 : KeepRel w B r R n R.L.length wr := by rw [HLEN.out]; exact HR.out
        unfold KeepRel at h1
        rw [keepK_all] at h1
        exact h1
      have HF := Lib.hid hfin
      clear hfin HR HST HL H2 b3 o3 k3 hkl
      go_wp2
      refine bodyPost_end (results_none rfl _ _ _) rfl ?_
      exact ⟨rfl, HF.out⟩
theorem rbarrier_any (h : RdAt w B r R) (n e : Int) (hm : rmayE R n e = 0) (hN : R.L.length ≤ 1000000) : Calls Tryz.prog 34 #[.pointer (some ⟨r, 0, none⟩), .int .i64 n, .int .u64 e] w fun e' w' => e' = .returned (.int .i64 0) ∧ RdOut w B r { R with L := R.L.map (hit n) } w' := by
  have km := rmay_any h n e
  have ks := rspend_any h
  have kk := rkeep_any h n hN
  rw [hm] at km
  clear h hm hN
  go_enter Tryz.func34, Tryz.ntmps34
  go_wp2_with (first
    | (go_at_call 70; refine km.mono ?_; rintro e w1 ⟨rfl, rfl⟩)
    | (go_at_call 69; refine ks.mono ?_; rintro e w1 ⟨rfl, rfl⟩)
    | (go_at_call 71; refine kk.mono ?_; rintro e w1 ⟨rfl, ho⟩; have H1 := Lib.hid ho; clear ho))
  go_ret
  exact ⟨rfl, H1.out⟩
theorem rfence_any (h : RdAt w B r R) (n : Int) (hn : inNode n = true) (hN : R.L.length ≤ 1000000) : Calls Tryz.prog 35 #[.pointer (some ⟨r, 0, none⟩), .int .i64 n] w fun e' w' => e' = .returned (.int .i64 0) ∧ RdOut w B r { R with L := R.L.map (hit n), table := updF R.table n 0 } w' := by
  have kn := fun W => rnode_any n W
  have ks := rspend_any h
  have kk := rkeep_any h n hN
  rw [hn] at kn
  have c2 : w.cell? ⟨r, 2, none⟩ = some (.bool false) := by obtain ⟨a, c, hb, _, _⟩ := h; exact hb.cell 2
  obtain ⟨i1, i2, i3⟩ := node_nat hn
  have hend : ∀ w1, RdOut w B r { R with L := R.L.map (hit n) } w1 → w1.frozen? ⟨r, 3 + n.toNat, none⟩ = false ∧ w1.cell? ⟨r, 3 + n.toNat, none⟩ = some (uv (R.table n)) ∧ RdOut w B r { R with L := R.L.map (hit n), table := updF R.table n 0 } (w1.setCell ⟨r, 3 + n.toNat, none⟩ (uv 0)) := by
    rintro w1 ⟨⟨a, c, hb, ho, hr⟩, hk⟩
    refine ⟨hb.frozen _, (hb.cell _).trans (cell_rtab hn _), ⟨a, c, ?_, ?_, hr⟩, hk.setCell (fun _ => hr) _⟩
    · have := hb.set_ (3 + n.toNat) (uv 0)
      rw [set_rtab hn] at this
      exact this
    · exact own_keeps ho (keep1 w1 r _ _) (fun k hk e' => own_ne ho hb (by decide) (by rw [hk, show k = r from e']))
  have HE := Lib.hid hend
  clear h hn hN hend
  go_enter Tryz.func35, Tryz.ntmps35
  go_wp2_with (first
    | (go_at_call 68; refine (kn _).mono ?_; rintro e w1 ⟨rfl, rfl⟩)
    | (go_at_call 69; refine ks.mono ?_; rintro e w1 ⟨rfl, rfl⟩)
    | (go_at_call 71; refine kk.mono ?_; rintro e w1 ⟨rfl, ho⟩; obtain ⟨f3, d3, h3⟩ := HE.out _ ho; have H3 := Lib.hid h3; clear ho h3))
  go_ret
  exact ⟨rfl, H3.out⟩
end
end Go.Proofs.YtakilnpfhljgfaaGreat.RD

/- The document's own disk: Write. On and not armed. No condition. -/
namespace Go.Proofs.YtakilnpfhljgfaaGreat.RD
set_option maxRecDepth 100000
open Go.RowKit Go.Proofs.YtakilnpfhljgfaaGreat.DK
set_option linter.unusedVariables false
set_option linter.unusedSimpArgs false

def rowsW (n a : Int) (b : ByteArray) : Nat → List Rw
  | 0 => []
  | k + 1 => rowsW n a b k ++ [⟨n, a + (k : Int), sect b k, false⟩]
theorem rowsW_len (n a : Int) (b : ByteArray) (k : Nat) : (rowsW n a b k).length = k := by
  induction k with
  | zero => rfl
  | succ k ih => unfold rowsW; rw [List.length_append, ih]; rfl
section
variable {w w' w0 W W' : World} {B r : Nat} {R : Rk}
def moreK (R : Rk) (n a : Int) (b : ByteArray) (k : Nat) : Rk := { R with L := R.L ++ rowsW n a b k }
set_option maxHeartbeats 4000000 in
theorem rwrite_core (h : RdAt w B r R) (w00 : World) (h00 : Keeps (fun k => B ≤ k) w00 w) (n e q : Int) (b : ByteArray) (c : Nat) (hb : b.size = c * 64) (hc : 1 ≤ c ∧ c ≤ 16) (hn : inNode n = true) (hm : rmayE R n e = 0) (hq : 0 ≤ q ∧ q + (c : Int) ≤ R.room) (hR : R.room ≤ 1000000) (hN : R.L.length ≤ 1000000) :
    Calls Tryz.prog 33 #[.pointer (some ⟨r, 0, none⟩), .int .i64 n, .int .u64 e, .int .i64 q, .string b] w fun e' w' => e' = .returned (.int .i64 0) ∧ RdOut w00 B r (moreK R n q b c) w' := by
  obtain ⟨i0, hi, hz0, hz1, hz2⟩ := info_parts infRW
  have kn := fun W => rnode_any n W
  have km := rmay_any h n e
  have ks := rspend_any h
  rw [hn] at kn
  rw [hm] at km
  have c2 : w.cell? ⟨r, 2, none⟩ = some (.bool false) := by obtain ⟨a, c, hb, _, _⟩ := h; exact hb.cell 2
  have c0 : w.cell? ⟨r, 0, none⟩ = some (.int .i64 R.room) := by obtain ⟨a, c, hb, _, _⟩ := h; exact hb.cell 0
  have hrB := h.ge
  have hqd : (b.size : Int).tdiv 64 = (c : Int) := by rw [Int.tdiv_eq_ediv_of_nonneg (by omega)]; omega
  have hmd : (b.size : Int).tmod 64 = 0 := by rw [Int.tmod_eq_emod_of_nonneg (by omega)]; omega
  have n1 : decide ((c : Int) < 1) = false := by simp; omega
  have n2 : decide ((16 : Int) < (c : Int)) = false := by simp; omega
  have n3 : decide (q < 0) = false := by simp; omega
  obtain ⟨room, hroom⟩ : ∃ v, R.room = v := ⟨_, rfl⟩
  rw [hroom] at c0 hq hR
  have e1 : IntKind.i64.wrap (room - (c : Int)) = room - (c : Int) := IntWalk.i64_in _ (by omega)
  have n4 : decide (room - (c : Int) < q) = false := by simp; omega
  have hS : Hid (RdOut w00 B r (moreK R n q b 0) w) := Lib.hid ⟨by unfold moreK rowsW; rw [List.append_nil]; exact h, h00⟩
  obtain ⟨len, hlen⟩ : ∃ len, R.L.length = len := ⟨_, rfl⟩
  rw [hlen] at hN
  have HLEN := Lib.hid hlen
  clear h h00 hn hm hroom hlen
  go_enter Tryz.func33, Tryz.ntmps33
  go_wp2_with (first
    | (go_at_call 68; refine (kn _).mono ?_; rintro e w1 ⟨rfl, rfl⟩)
    | (go_at_call 70; refine km.mono ?_; rintro e w1 ⟨rfl, rfl⟩)
    | (go_at_call 69; refine ks.mono ?_; rintro e w1 ⟨rfl, rfl⟩))
  go_loopw [13] (fun i wr => ∃ k : Nat, k ≤ c ∧ i = .int .i64 (k : Int) ∧ Hid (RdOut w00 B r (moreK R n q b k) wr)) (fun i _ => c - (intOf i).toNat)
  case atStart => exact ⟨0, by omega, rfl, hS⟩
  case round =>
    obtain ⟨k, hk, rfl, HR⟩ := hrel
    clear hS
    by_cases hlt : k < c
    · obtain ⟨⟨a3, c3, b3, o3, _⟩, k3⟩ := HR.out
      have hkl : (moreK R n q b k).L.length = len + k := by unfold moreK; rw [List.length_append, rowsW_len, HLEN.out]
      rw [hkl] at b3 o3
      have y1 : wr.cell? ⟨r, 1, none⟩ = some (.slice a3 (len + k) c3) := b3.cell 1
      have y1a : ∀ o, (wr.alloc o).cell? ⟨r, 1, none⟩ = some (.slice a3 (len + k) c3) := fun o => (b3.alloc o).cell 1
      have d1 : decide ((k : Int) < (c : Int)) = true := by simp; omega
      have e2 : IntKind.i64.wrap (q + (k : Int)) = q + (k : Int) := IntWalk.i64_in _ (by omega)
      have e3 : IntKind.i64.wrap (64 * (k : Int)) = 64 * (k : Int) := IntWalk.i64_in _ (by omega)
      have e4 : IntKind.i64.wrap (64 * (k : Int) + 64) = 64 * (k : Int) + 64 := IntWalk.i64_in _ (by omega)
      have e5 : IntKind.i64.wrap ((k : Int) + 1) = (k : Int) + 1 := IntWalk.i64_in _ (by omega)
      have hsl : ∀ w : World, (Instr.slice 9 (.string b) (some (.int .i64 (64 * (k : Int)))) (some (.int .i64 (64 * (k : Int) + 64))) none).run Tryz.prog w = .ok (.string (sect b k)) w := fun w => by
        rw [run_slice_string (P := Tryz.prog) w _ b .i64 .i64 (64 * (k : Int)) (64 * (k : Int) + 64) Tryz.underlying9 (by omega) (by omega) (by omega)]
        rw [show (64 * (k : Int)).toNat = k * 64 by omega, show (64 * (k : Int) + 64).toNat = (k + 1) * 64 by omega]
        rfl
      obtain ⟨S, hSS⟩ : ∃ S, sect b k = S := ⟨_, rfl⟩
      rw [hSS] at hsl
      have r2 : (wr.drew.alloc (.cells #[.int .i64 n, .int .i64 (q + (k : Int)), .string S, .bool false] TRW)).ownsRow B TRW 4 (.slice a3 (len + k) c3) (len + k) ((moreK R n q b k).L.flatMap rwval) := own_keeps o3 (((Keeps.refl (fun _ => False) wr).drew).alloc _) (fun _ _ h => h)
      have hlA : Lies (wr.drew.alloc (.cells #[.int .i64 n, .int .i64 (q + (k : Int)), .string S, .bool false] TRW)) 4 (some ⟨wr.heap.size, 0, none⟩) 1 (rwval ⟨n, q + (k : Int), S, false⟩) := by
        have := Lies.of_blk (Blk.new wr.drew TRW #[.int .i64 n, .int .i64 (q + (k : Int)), .string S, .bool false])
        exact ⟨rfl, fun _ => this.2 (by simp)⟩
      have hBw : B ≤ (wr.drew.alloc (.cells #[.int .i64 n, .int .i64 (q + (k : Int)), .string S, .bool false] TRW)).heap.size := by
        have h1 : (wr.drew.alloc (.cells #[.int .i64 n, .int .i64 (q + (k : Int)), .string S, .bool false] TRW)).heap.size = wr.heap.size + 1 := by simp
        have := b3.lt; omega
      have hmx : len + k + 1 ≤ maxLen := by unfold maxLen; omega
      have hfin : ∀ (w3 : World) (a4 : Option Addr) (c4 : Nat), w3.ownsRow B TRW 4 (.slice a4 (len + k + 1) c4) (len + k + 1) ((moreK R n q b k).L.flatMap rwval ++ rwval ⟨n, q + (k : Int), S, false⟩) →
          (wr.drew.alloc (.cells #[.int .i64 n, .int .i64 (q + (k : Int)), .string S, .bool false] TRW)).grownBy w3 (Value.slice a3 0 0).ownBlock →
          ((Value.slice a4 0 0).ownBlock = (Value.slice a3 0 0).ownBlock ∨ (Value.slice a4 0 0).ownBlock = some (wr.drew.alloc (.cells #[.int .i64 n, .int .i64 (q + (k : Int)), .string S, .bool false] TRW)).heap.size) →
          w3.frozen? ⟨r, 1, none⟩ = false ∧ w3.cell? ⟨r, 1, none⟩ = some (.slice a3 (len + k) c3) ∧ RdOut w00 B r (moreK R n q b (k + 1)) (w3.setCell ⟨r, 1, none⟩ (.slice a4 (len + k + 1) c4)) := by
        intro w3 a4 c4 ho hg hat
        have hne := own_ne o3 b3 (by decide)
        rw [own_blk] at hne
        have b4 : Blk w3 r TRD (rcells (moreK R n q b k) (.slice a3 (len + k) c3)) := ((b3.drew).alloc _).grown hg (fun e => hne e.symm)
        have hkl2 : (moreK R n q b (k + 1)).L.length = len + k + 1 := by unfold moreK; rw [List.length_append, rowsW_len, HLEN.out]; omega
        have hfl : (moreK R n q b (k + 1)).L.flatMap rwval = (moreK R n q b k).L.flatMap rwval ++ rwval ⟨n, q + (k : Int), S, false⟩ := by
          unfold moreK
          show (R.L ++ (rowsW n q b k ++ [(⟨n, q + (k : Int), sect b k, false⟩ : Rw)])).flatMap rwval = _
          rw [hSS, ← List.append_assoc, List.flatMap_append (xs := R.L ++ rowsW n q b k)]
          simp
        refine ⟨b4.frozen 1, b4.cell 1, ⟨a4, c4, ?_, ?_, hrB⟩, ?_⟩
        · have := b4.set_ 1 (.slice a4 (len + k + 1) c4)
          rw [set_rl] at this
          rw [hkl2]
          exact this
        · rw [hkl2, hfl]
          refine own_keeps ho (keep1 w3 r 1 _) (fun j hj e => ?_)
          have e' : j = r := e
          rw [own_blk, e'] at hj
          rcases hat with h0 | h0
          · rw [h0] at hj; exact hne hj
          · rw [h0] at hj
            injection hj with hj
            have h1 : (wr.drew.alloc (.cells #[.int .i64 n, .int .i64 (q + (k : Int)), .string S, .bool false] TRW)).heap.size = wr.heap.size + 1 := by simp
            have := b3.lt; omega
        · refine ((((k3.drew).alloc _).grown hg (fun j hj _ => ?_)).setCell (fun _ => hrB) _)
          exact (o3.lt j (by rw [own_blk]; exact hj)).1
      have HF := Lib.hid hfin
      have O3 := Lib.hid r2
      have L3 := Lib.hid hlA
      clear hfin b3 o3 k3 hkl hSS HR r2 hlA
      go_wp2_with fail
      go_region_law (refine step_append_lie _ rfl (.tmp 71) (.tmp 84) 67 rfl B TRW i0 _ 4 40 Tryz.underlying67 hi hz0 hz1 hz2 rfl (by decide) a3 (len + k) c3 _ (by go_simp) O3.out (some ⟨wr.heap.size, 0, none⟩) 1 1 _ (by go_simp) L3.out (by intro u hu; simp [rwval] at hu; rcases hu with rfl | rfl | rfl | rfl <;> rfl) hmx (by omega) hBw ?_; intro a4 c4 w4 ho4 hg4 hat4; obtain ⟨f6, d6, R4⟩ := HF.out w4 a4 c4 ho4 hg4 hat4; have H4 := Lib.hid R4; clear ho4 hg4 hat4 R4)
      all_goals
        go_wp2_with fail
        go_roundw
        case rel => exact ⟨k + 1, by omega, by go_num, H4⟩
        case measure => simp [intOf]; omega
    · obtain rfl : k = c := by omega
      go_wp2
      go_ret
      exact ⟨rfl, HR.out⟩
theorem rwrite_ok (h : RdAt w B r R) (n e q : Int) (b : ByteArray) (c : Nat) (hb : b.size = c * 64) (hc : 1 ≤ c ∧ c ≤ 16) (hn : inNode n = true) (hm : rmayE R n e = 0) (hq : 0 ≤ q ∧ q + (c : Int) ≤ R.room) (hR : R.room ≤ 1000000) (hN : R.L.length ≤ 1000000) :
    Calls Tryz.prog 33 #[.pointer (some ⟨r, 0, none⟩), .int .i64 n, .int .u64 e, .int .i64 q, .string b] w fun e' w' => e' = .returned (.int .i64 0) ∧ RdOut w B r (moreK R n q b c) w' :=
  rwrite_core h w (Keeps.refl _ _) n e q b c hb hc hn hm hq hR hN
theorem rwrite_no (h : RdAt w B r R) (n e q : Int) (b : ByteArray) (c : Nat) (hb : b.size = c * 64) (hc : 1 ≤ c ∧ c ≤ 16) (hm : rmayE R n e ≠ 0) :
    Calls Tryz.prog 33 #[.pointer (some ⟨r, 0, none⟩), .int .i64 n, .int .u64 e, .int .i64 q, .string b] w fun e' w' => e' = .returned (.int .i64 (rmayE R n e)) ∧ w' = w := by
  have kn := fun W => rnode_any n W
  have km := rmay_any h n e
  have c2 : w.cell? ⟨r, 2, none⟩ = some (.bool false) := by obtain ⟨a, c, hb, _, _⟩ := h; exact hb.cell 2
  have hqd : (b.size : Int).tdiv 64 = (c : Int) := by rw [Int.tdiv_eq_ediv_of_nonneg (by omega)]; omega
  have hmd : (b.size : Int).tmod 64 = 0 := by rw [Int.tmod_eq_emod_of_nonneg (by omega)]; omega
  have n1 : decide ((c : Int) < 1) = false := by simp; omega
  have n2 : decide ((16 : Int) < (c : Int)) = false := by simp; omega
  cases hn : inNode n
  · have he : rmayE R n e = 1 := by unfold rmayE; rw [hn]; rfl
    rw [he]
    rw [hn] at kn
    clear h hn hm he km
    go_enter Tryz.func33, Tryz.ntmps33
    go_wp2_with (go_at_call 68; refine (kn _).mono ?_; rintro e w1 ⟨rfl, rfl⟩)
    go_ret
    exact ⟨rfl, rfl⟩
  · have he : rmayE R n e = 34 := by
      unfold rmayE at hm ⊢
      rw [hn] at hm ⊢
      cases hx : (e == 0 || !(R.table n == e))
      · rw [hx] at hm; exact absurd rfl hm
      · rfl
    rw [he] at km ⊢
    rw [hn] at kn
    clear h hn hm he
    go_enter Tryz.func33, Tryz.ntmps33
    go_wp2_with (first
      | (go_at_call 68; refine (kn _).mono ?_; rintro e w1 ⟨rfl, rfl⟩)
      | (go_at_call 70; refine km.mono ?_; rintro e w1 ⟨rfl, rfl⟩))
    go_ret
    exact ⟨rfl, rfl⟩
end
end Go.Proofs.YtakilnpfhljgfaaGreat.RD

/- The document's own writer: Num, onto whatever stands there. No condition. -/
namespace Go.Proofs.YtakilnpfhljgfaaGreat.WI
set_option maxRecDepth 100000
open Go.RowKit
set_option linter.unusedVariables false
set_option linter.unusedSimpArgs false

abbrev TRWr : TypeId := 102
def RWr (W : World) (B g : Nat) (bs : List Int) (w : World) : Prop :=
  ∃ a c, Blk w g TRWr #[.slice a bs.length c, .int .i64 0] ∧ w.ownsRow B 5 1 (.slice a bs.length c) bs.length (bs.map byteV) ∧ Below B W w ∧ B ≤ g
theorem RWr.more {W w w2 : World} {B g : Nat} {bs ys : List Int} {a a2 : Option Addr} {c c2 : Nat} (hb : Blk w g TRWr #[.slice a bs.length c, .int .i64 0]) (ho : w.ownsRow B 5 1 (.slice a bs.length c) bs.length (bs.map byteV)) (hB : Below B W w) (hBg : B ≤ g)
    (ho2 : w2.ownsRow B 5 1 (.slice a2 (bs.length + ys.length) c2) (bs.length + ys.length) (bs.map byteV ++ ys.map byteV)) (hg : w.grownBy w2 (Value.slice a 0 0).ownBlock) :
    w2.cell? ⟨g, 0, none⟩ = some (.slice a bs.length c) ∧ w2.frozen? ⟨g, 0, none⟩ = false ∧ RWr W B g (bs ++ ys) (w2.setCell ⟨g, 0, none⟩ (.slice a2 (bs.length + ys.length) c2)) := by
  have hne := own_ne ho hb (by decide)
  rw [own_blk_] at hne
  have hb2 : Blk w2 g TRWr #[.slice a bs.length c, .int .i64 0] := hb.grown hg (fun e => hne e.symm)
  have hbl : B ≤ w.heap.size := by have := hb.lt; omega
  have hlow : ∀ k, (Value.slice a 0 0).ownBlock = some k → B ≤ k := fun k hk => (ho.lt k ((own_blk_ _ _ _).trans hk)).1
  have hB2 : Below B W w2 := hB.trans ⟨hg.os, hg.tape, hg.output, hg.size, fun k hk => hg.block k (by omega) (fun e => by have := hlow k e.symm; omega)⟩
  refine ⟨hb2.cell 0, hb2.frozen 0, a2, c2, ?_, ?_, ?_, hBg⟩
  · rw [List.length_append]
    simpa using hb2.set_ 0 (.slice a2 (bs.length + ys.length) c2)
  · rw [List.length_append, List.map_append]
    exact own_keeps ho2 (keep1 w2 g 0 (.slice a2 (bs.length + ys.length) c2)) (fun k h1 h2 => own_ne ho2 hb2 (by decide) (by rw [h1, show k = g from h2]))
  · exact hB2.setCell hBg _
theorem rfail_ok {w : World} {g : Nat} {a : Option Addr} {n c : Nat} (hb : Blk w g TRWr #[.slice a n c, .int .i64 0]) : Calls Tryz.prog 94 #[.pointer (some ⟨g, 0, none⟩), .int .i64 0] w fun e w' => e = .returned (.bool false) ∧ Blk w' g TRWr #[.slice a n c, .int .i64 0] ∧ Keeps (only g) w w' := by
  have c1 : w.cell? ⟨g, 1, none⟩ = some (.int .i64 0) := hb.cell 1
  have f1 := hb.frozen 1
  have h1 : Blk (w.setCell ⟨g, 1, none⟩ (.int .i64 0)) g TRWr #[.slice a n c, .int .i64 0] := hb.set_ 1 (.int .i64 0)
  have c2 : (w.setCell ⟨g, 1, none⟩ (.int .i64 0)).cell? ⟨g, 1, none⟩ = some (.int .i64 0) := h1.cell 1
  have H1 := Lib.hid h1
  clear hb h1
  go_enter Tryz.func94, Tryz.ntmps94
  go_wp2
  go_ret
  exact ⟨rfl, H1.out, keep1 w g 1 _⟩
set_option maxRecDepth 100000 in
set_option maxHeartbeats 4000000 in
theorem rwnum_any {W w : World} {B g : Nat} {bs : List Int} (h : RWr W B g bs w) (hbl : bs.length ≤ 1000000) (v : Int) (h0 : 0 ≤ v) (h1 : v ≤ 18446744073709551615) (n : Nat) (hn1 : 1 ≤ n) (hn8 : n ≤ 8) (hz : shr8 v n = 0) :
    Calls Tryz.prog 66 #[.pointer (some ⟨g, 0, none⟩), .int .u64 v, .int .i64 (n : Int)] w fun e w' => e = .returned (.tuple #[]) ∧ RWr W B g (bs ++ lowB v n) w' := by
  obtain ⟨i0, hi, hz0, hz1, hz2⟩ := info_parts infoB
  obtain ⟨a, c, hb, ho, hB, hBg⟩ := h
  have hf := rfail_ok hb
  have n1 : decide ((n : Int) < 1) = false := by simp; omega
  have n2 : decide ((8 : Int) < (n : Int)) = false := by simp; omega
  go_enter Tryz.func66, Tryz.ntmps66
  go_wp2_with (go_at_call 94; refine hf.mono ?_; rintro e w2 ⟨rfl, hb2, hk2⟩)
  have h2 : RWr W B g bs w2 := ⟨a, c, hb2, own_keeps ho hk2 (fun k h3 h4 => own_ne ho hb (by decide) (by rw [h3, show k = g from h4])), hk2.after hB (fun k hk => by rw [show k = g from hk]; exact hBg) (by have := hb.lt; omega), hBg⟩
  have H2 := Lib.hid h2
  clear hb ho hB hf hb2 hk2 h2
  go_loopw [1, 6, 7] (fun x s i wr => ∃ (k : Nat) (a' : Option Addr) (c' : Nat), k ≤ n ∧ i = .int .i64 (k : Int) ∧ x = .int .u64 (shr8 v k) ∧ s = .slice a' k c' ∧ Hid (wr.ownsRow w2.heap.size 5 1 (.slice a' k c') k ((lowB v k).map byteV)) ∧ Hid (Below w2.heap.size w2 wr)) (fun _ _ i _ => n - (intOf i).toNat)
  case atStart => exact ⟨0, none, 0, by omega, rfl, rfl, rfl, Lib.hid (World.ownsRow_nil _ _ _ _), Lib.hid (belowSame _)⟩
  case round =>
    obtain ⟨k, a', c', hk, rfl, rfl, rfl, HO, HB⟩ := hrel
    by_cases hlt : k < n
    · have hs8 := shr8_b h0 (by omega) k
      have d1 : decide ((k : Int) < (n : Int)) = true := by simp; omega
      have hsn : (lowB v k).map byteV ++ [byteV (shr8 v k % 256)] = (lowB v (k + 1)).map byteV := by rw [lowB_snoc, List.map_append]; rfl
      have HS := Lib.hid hsn
      have hw8 : IntKind.u8.wrap (shr8 v k % 256) = shr8 v k % 256 := IntWalk.u8_in _ (by omega)
      have ho1 := HO.out.alloc (.cells #[.int .u8 (shr8 v k % 256)] 5)
      have hBw : w2.heap.size ≤ (wr.alloc (.cells #[.int .u8 (shr8 v k % 256)] 5)).heap.size := by have := HB.out.size; simp; omega
      have hmx : k + 1 ≤ maxLen := by unfold maxLen; omega
      have hfin : ∀ (w3 : World) (a3 : Option Addr) (c3 : Nat), w3.ownsRow w2.heap.size 5 1 (.slice a3 (k + 1) c3) (k + 1) ((lowB v k).map byteV ++ [byteV (shr8 v k % 256)]) → (wr.alloc (.cells #[.int .u8 (shr8 v k % 256)] 5)).grownBy w3 (Value.slice a' 0 0).ownBlock →
          w3.ownsRow w2.heap.size 5 1 (.slice a3 (k + 1) c3) (k + 1) ((lowB v (k + 1)).map byteV) ∧ Below w2.heap.size w2 w3 := by
        intro w3 a3 c3 ho3 hg3
        refine ⟨by rw [← HS.out]; exact ho3, ?_⟩
        have hlow : ∀ j, (Value.slice a' 0 0).ownBlock = some j → w2.heap.size ≤ j := fun j hj => (HO.out.lt j ((own_blk_ _ _ _).trans hj)).1
        have hA := belowNew HB.out (.cells #[.int .u8 (shr8 v k % 256)] 5)
        exact hA.trans ⟨hg3.os, hg3.tape, hg3.output, hg3.size, fun j hj => hg3.block j (by omega) (fun e => by have := hlow j e.symm; omega)⟩
      have HF := Lib.hid hfin
      have HO8 := Lib.hid (shr8_out v k)
      obtain ⟨sv, hsv⟩ : ∃ s, shr8 v k = s := ⟨_, rfl⟩
      rw [hsv] at hs8 hw8 ho1 hBw HF HO8
      rw [hsv]
      clear hsn hfin hsv HS
      go_wp2_with (at_builtin; refine wpList_append_lie _ rfl _ _ 84 rfl w2.heap.size 5 i0 _ 1 1 Tryz.underlying84 hi hz0 hz1 hz2 rfl (by decide) a' k c' ((lowB v k).map byteV) rfl ho1 (some ⟨wr.heap.size, 0, none⟩) 1 1 [byteV (sv % 256)] rfl (Lies.of_blk (cs := #[.int .u8 (sv % 256)]) (Blk.new _ _ _)) (by simp [byteV, Value.oneCell']) hmx (by omega) hBw ?_; intro a3 c3 w3 ho3 hg3 hat3; have H3 := Lib.hid (HF.out w3 a3 c3 ho3 hg3); clear ho3 hg3 hat3 ho1)
      go_roundw
      case rel => exact ⟨k + 1, a3, c3, by omega, by go_num, by rw [HO8.out], rfl, Lib.hid H3.out.1, Lib.hid H3.out.2⟩
      case measure => simp [intOf]; omega
    · obtain rfl : k = n := by omega
      rw [hz]
      obtain ⟨a, c, hb, ho, hB, _⟩ := H2.out
      have c0 : wr.cell? ⟨g, 0, none⟩ = some (.slice a bs.length c) := (hb.below HB.out hb.lt).cell 0
      have hb3 := hb.below HB.out hb.lt
      have ho3 := own_keeps ho (Keeps.of_below HB.out (fun _ => False)) (fun _ _ h => h)
      have hwB : B ≤ w2.heap.size := by have := hb.lt; omega
      have hB3 : Below B W wr := hB.trans (HB.out.mono hwB)
      have hBw : B ≤ wr.heap.size := by have := HB.out.size; omega
      have hmx : bs.length + k ≤ maxLen := by unfold maxLen; omega
      have hlk := lowB_len v k
      have hfin : ∀ (w3 : World) (a3 : Option Addr) (c3 : Nat), w3.ownsRow B 5 1 (.slice a3 (bs.length + k) c3) (bs.length + k) (bs.map byteV ++ (lowB v k).map byteV) → wr.grownBy w3 (Value.slice a 0 0).ownBlock →
          w3.cell? ⟨g, 0, none⟩ = some (.slice a bs.length c) ∧ w3.frozen? ⟨g, 0, none⟩ = false ∧ RWr W B g (bs ++ lowB v k) (w3.setCell ⟨g, 0, none⟩ (.slice a3 (bs.length + k) c3)) := by
        intro w3 a3 c3 h5 h6
        have := RWr.more (ys := lowB v k) (a2 := a3) (c2 := c3) hb3 ho3 hB3 hBg (by rw [hlk]; exact h5) h6
        rw [hlk] at this
        exact this
      have HF := Lib.hid hfin
      have O3 := Lib.hid ho3
      have L3 := Lib.hid (Lies.of_own HO.out)
      have hone : ∀ u ∈ (lowB v k).map byteV, u.oneCell' = true := by
        intro u hu
        obtain ⟨x, _, rfl⟩ := List.mem_map.1 hu
        rfl
      obtain ⟨bl, hbl2⟩ : ∃ l, bs.length = l := ⟨_, rfl⟩
      rw [hbl2] at c0 O3 HF hmx hbl
      clear hb ho hB hb3 ho3 hB3 hfin H2 hbl2 hz hlk
      go_wp2_with (at_builtin; refine wpList_append_lie _ rfl _ _ 84 rfl B 5 i0 _ 1 1 Tryz.underlying84 hi hz0 hz1 hz2 rfl (by decide) a bl c (bs.map byteV) rfl O3.out a' k c' ((lowB v k).map byteV) rfl L3.out hone hmx (by omega) hBw ?_; intro a3 c3 w3 ho3 hg3 hat3; obtain ⟨d1, d2, d3⟩ := HF.out w3 a3 c3 ho3 hg3; have H3 := Lib.hid d3; clear ho3 hg3 hat3 d3 c0)
      refine bodyPost_end (results_none rfl _ _ _) rfl ?_
      exact ⟨rfl, H3.out⟩
/-- A writer over bytes that stand in a full row that nobody may write. -/
def RW0 (W : World) (B g x0 : Nat) (bs : List Int) (w : World) : Prop :=
  Blk w g TRWr #[.slice (some ⟨x0, 0, none⟩) bs.length bs.length, .int .i64 0] ∧ (∀ j u, (bs.map byteV)[j]? = some u → w.cell? ⟨x0, j, none⟩ = some u) ∧ x0 < w.heap.size ∧ ¬ only g x0 ∧ Below B W w ∧ B ≤ g
set_option maxRecDepth 100000 in
set_option maxHeartbeats 4000000 in
theorem rwnum_first {W w : World} {B g x0 : Nat} {bs : List Int} (h : RW0 W B g x0 bs w) (hbl : bs.length ≤ 1000000) (v : Int) (h0 : 0 ≤ v) (h1 : v ≤ 18446744073709551615) (n : Nat) (hn1 : 1 ≤ n) (hn8 : n ≤ 8) (hz : shr8 v n = 0) :
    Calls Tryz.prog 66 #[.pointer (some ⟨g, 0, none⟩), .int .u64 v, .int .i64 (n : Int)] w fun e w' => e = .returned (.tuple #[]) ∧ RWr W B g (bs ++ lowB v n) w' := by
  obtain ⟨i0, hi, hz0, hz1, hz2⟩ := info_parts infoB
  obtain ⟨hb, ho, hxl, hxg, hB, hBg⟩ := h
  have hf := rfail_ok hb
  have n1 : decide ((n : Int) < 1) = false := by simp; omega
  have n2 : decide ((8 : Int) < (n : Int)) = false := by simp; omega
  go_enter Tryz.func66, Tryz.ntmps66
  go_wp2_with (go_at_call 94; refine hf.mono ?_; rintro e w2 ⟨rfl, hb2, hk2⟩)
  have h2 : RW0 W B g x0 bs w2 := ⟨hb2, fun j u hu => (hk2.cell (p := ⟨x0, j, none⟩) hxl hxg).trans (ho j u hu), Nat.lt_of_lt_of_le hxl hk2.size, hxg, hk2.after hB (fun k hk => by rw [show k = g from hk]; exact hBg) (by have := hb.lt; omega), hBg⟩
  have H2 := Lib.hid h2
  clear hb ho hB hf hb2 hk2 h2
  go_loopw [1, 6, 7] (fun x s i wr => ∃ (k : Nat) (a' : Option Addr) (c' : Nat), k ≤ n ∧ i = .int .i64 (k : Int) ∧ x = .int .u64 (shr8 v k) ∧ s = .slice a' k c' ∧ Hid (wr.ownsRow w2.heap.size 5 1 (.slice a' k c') k ((lowB v k).map byteV)) ∧ Hid (Below w2.heap.size w2 wr)) (fun _ _ i _ => n - (intOf i).toNat)
  case atStart => exact ⟨0, none, 0, by omega, rfl, rfl, rfl, Lib.hid (World.ownsRow_nil _ _ _ _), Lib.hid (belowSame _)⟩
  case round =>
    obtain ⟨k, a', c', hk, rfl, rfl, rfl, HO, HB⟩ := hrel
    by_cases hlt : k < n
    · have hs8 := shr8_b h0 (by omega) k
      have d1 : decide ((k : Int) < (n : Int)) = true := by simp; omega
      have hsn : (lowB v k).map byteV ++ [byteV (shr8 v k % 256)] = (lowB v (k + 1)).map byteV := by rw [lowB_snoc, List.map_append]; rfl
      have HS := Lib.hid hsn
      have hw8 : IntKind.u8.wrap (shr8 v k % 256) = shr8 v k % 256 := IntWalk.u8_in _ (by omega)
      have ho1 := HO.out.alloc (.cells #[.int .u8 (shr8 v k % 256)] 5)
      have hBw : w2.heap.size ≤ (wr.alloc (.cells #[.int .u8 (shr8 v k % 256)] 5)).heap.size := by have := HB.out.size; simp; omega
      have hmx : k + 1 ≤ maxLen := by unfold maxLen; omega
      have hfin : ∀ (w3 : World) (a3 : Option Addr) (c3 : Nat), w3.ownsRow w2.heap.size 5 1 (.slice a3 (k + 1) c3) (k + 1) ((lowB v k).map byteV ++ [byteV (shr8 v k % 256)]) → (wr.alloc (.cells #[.int .u8 (shr8 v k % 256)] 5)).grownBy w3 (Value.slice a' 0 0).ownBlock →
          w3.ownsRow w2.heap.size 5 1 (.slice a3 (k + 1) c3) (k + 1) ((lowB v (k + 1)).map byteV) ∧ Below w2.heap.size w2 w3 := by
        intro w3 a3 c3 ho3 hg3
        refine ⟨by rw [← HS.out]; exact ho3, ?_⟩
        have hlow : ∀ j, (Value.slice a' 0 0).ownBlock = some j → w2.heap.size ≤ j := fun j hj => (HO.out.lt j ((own_blk_ _ _ _).trans hj)).1
        have hA := belowNew HB.out (.cells #[.int .u8 (shr8 v k % 256)] 5)
        exact hA.trans ⟨hg3.os, hg3.tape, hg3.output, hg3.size, fun j hj => hg3.block j (by omega) (fun e => by have := hlow j e.symm; omega)⟩
      have HF := Lib.hid hfin
      have HO8 := Lib.hid (shr8_out v k)
      obtain ⟨sv, hsv⟩ : ∃ s, shr8 v k = s := ⟨_, rfl⟩
      rw [hsv] at hs8 hw8 ho1 hBw HF HO8
      rw [hsv]
      clear hsn hfin hsv HS
      go_wp2_with (at_builtin; refine wpList_append_lie _ rfl _ _ 84 rfl w2.heap.size 5 i0 _ 1 1 Tryz.underlying84 hi hz0 hz1 hz2 rfl (by decide) a' k c' ((lowB v k).map byteV) rfl ho1 (some ⟨wr.heap.size, 0, none⟩) 1 1 [byteV (sv % 256)] rfl (Lies.of_blk (cs := #[.int .u8 (sv % 256)]) (Blk.new _ _ _)) (by simp [byteV, Value.oneCell']) hmx (by omega) hBw ?_; intro a3 c3 w3 ho3 hg3 hat3; have H3 := Lib.hid (HF.out w3 a3 c3 ho3 hg3); clear ho3 hg3 hat3 ho1)
      go_roundw
      case rel => exact ⟨k + 1, a3, c3, by omega, by go_num, by rw [HO8.out], rfl, Lib.hid H3.out.1, Lib.hid H3.out.2⟩
      case measure => simp [intOf]; omega
    · obtain rfl : k = n := by omega
      rw [hz]
      obtain ⟨hb, ho, hxl, hxg, hB, _⟩ := H2.out
      have c0 : wr.cell? ⟨g, 0, none⟩ = some (.slice (some ⟨x0, 0, none⟩) bs.length bs.length) := (hb.below HB.out hb.lt).cell 0
      have hb3 := hb.below HB.out hb.lt
      have hwB : B ≤ w2.heap.size := by have := hb.lt; omega
      have hB3 : Below B W wr := hB.trans (HB.out.mono hwB)
      have hmx : bs.length + k ≤ maxLen := by unfold maxLen; omega
      have hlk := lowB_len v k
      have hold : ∀ b : Addr, some (⟨x0, 0, none⟩ : Addr) = some b → ∀ j u, (bs.map byteV)[j]? = some u → wr.cell? (b.add j) = some u := by
        intro b e j u hu
        injection e with e
        subst e
        have e2 : (⟨x0, 0, none⟩ : Addr).add j = ⟨x0, j, none⟩ := by unfold Addr.add; split <;> simp_all
        rw [e2]
        exact (HB.out.cell (p := ⟨x0, j, none⟩) hxl).trans (ho j u hu)
      obtain ⟨b1, hb1⟩ : ∃ b1, a' = some ⟨b1, 0, none⟩ := by
        obtain ⟨b1, _, hv, _, _⟩ := HO.out.form (by omega)
        injection hv with hv
        exact ⟨b1, hv⟩
      subst hb1
      have hnew : ∀ j u, ((lowB v k).map byteV)[j]? = some u → wr.cell? ((⟨b1, 0, none⟩ : Addr).add j) = some u := HO.out.cells (g := b1) rfl
      have hfin : ∀ (v3 : Value) (w3 : World), w3.ownsRow wr.heap.size 5 1 v3 (bs.length + k) (bs.map byteV ++ (lowB v k).map byteV) → wr.grownBy w3 none →
          ∃ b3 c3, v3 = .slice (some ⟨b3, 0, none⟩) (bs.length + k) c3 ∧ w3.cell? ⟨g, 0, none⟩ = some (.slice (some ⟨x0, 0, none⟩) bs.length bs.length) ∧ w3.frozen? ⟨g, 0, none⟩ = false ∧ RWr W B g (bs ++ lowB v k) (w3.setCell ⟨g, 0, none⟩ v3) := by
        intro v3 w3 h5 h6
        have hb4 := hb3.grown h6 (by simp)
        obtain ⟨b3, c3, rfl, hb5, _⟩ := h5.form (by omega)
        refine ⟨b3, c3, rfl, hb4.cell 0, hb4.frozen 0, some ⟨b3, 0, none⟩, c3, ?_, ?_, ?_, hBg⟩
        · rw [List.length_append, hlk]
          simpa using hb4.set_ 0 (.slice (some ⟨b3, 0, none⟩) (bs.length + k) c3)
        · rw [List.length_append, List.map_append, hlk]
          refine own_keeps (own_base h5 (fun j hj => by have := (h5.lt j hj).1; have := hb3.lt; omega)) (keep1 w3 g 0 _) (fun j h1 h2 => ?_)
          have h3 : j = g := h2
          have h4 : b3 = j := by injection h1
          have := hb3.lt; omega
        · refine (hB3.trans ⟨h6.os, h6.tape, h6.output, h6.size, fun j hj => h6.block j (by have := hb3.lt; omega) (by simp)⟩).setCell hBg _
      have HF := Lib.hid hfin
      have hone : ∀ u ∈ (lowB v k).map byteV, u.oneCell' = true := by
        intro u hu
        obtain ⟨x, _, rfl⟩ := List.mem_map.1 hu
        rfl
      have hlo : (bs.map byteV).length = bs.length * 1 := by rw [List.length_map]; omega
      have hln : ((lowB v k).map byteV).length = k * 1 := by rw [List.length_map, hlk]; omega
      have HLO := Lib.hid hlo
      have HLN := Lib.hid hln
      have HOLD := Lib.hid hold
      have HNEW := Lib.hid hnew
      obtain ⟨bl, hbl2⟩ : ∃ l, bs.length = l := ⟨_, rfl⟩
      rw [hbl2] at c0 HF hmx hbl HLO
      clear hb ho hB hb3 hB3 hfin H2 hbl2 hz hlk hlo hln hold hnew
      go_wp2_with (at_builtin; refine wpList_append_grows _ rfl _ _ 84 rfl 5 i0 _ 1 1 Tryz.underlying84 hi hz0 hz1 hz2 rfl (by decide) (some ⟨x0, 0, none⟩) bl bl (bs.map byteV) rfl (by simp) HLO.out HOLD.out ⟨b1, 0, none⟩ k c' ((lowB v k).map byteV) rfl HLN.out HNEW.out hone (by omega) hmx (by omega) ?_; intro v3 w3 ho3 hg3; obtain ⟨b3, c3, rfl, d1, d2, d3⟩ := HF.out v3 w3 ho3 hg3; have H3 := Lib.hid d3; clear ho3 hg3 d3 c0)
      refine bodyPost_end (results_none rfl _ _ _) rfl ?_
      exact ⟨rfl, H3.out⟩
section
variable {W w w' : World} {B g : Nat} {bs : List Int}
theorem rwnum_4 (h : RWr W B g bs w) (hbl : bs.length ≤ 1000000) (v : Int) (h0 : 0 ≤ v) (h1 : v ≤ 4294967295) :
    Calls Tryz.prog 66 #[.pointer (some ⟨g, 0, none⟩), .int .u64 v, .int .i64 4] w fun e w' => e = .returned (.tuple #[]) ∧ RWr W B g (bs ++ lowB v 4) w' :=
  rwnum_any h hbl v h0 (by omega) 4 (by omega) (by omega) (by show v / 256 / 256 / 256 / 256 = 0; omega)
theorem rwfirst_4 {x0 : Nat} (h : RW0 W B g x0 bs w) (hbl : bs.length ≤ 1000000) (v : Int) (h0 : 0 ≤ v) (h1 : v ≤ 4294967295) :
    Calls Tryz.prog 66 #[.pointer (some ⟨g, 0, none⟩), .int .u64 v, .int .i64 4] w fun e w' => e = .returned (.tuple #[]) ∧ RWr W B g (bs ++ lowB v 4) w' :=
  rwnum_first h hbl v h0 (by omega) 4 (by omega) (by omega) (by show v / 256 / 256 / 256 / 256 = 0; omega)
theorem rwnum_8 (h : RWr W B g bs w) (hbl : bs.length ≤ 1000000) (v : Int) (h0 : 0 ≤ v) (h1 : v ≤ 18446744073709551615) :
    Calls Tryz.prog 66 #[.pointer (some ⟨g, 0, none⟩), .int .u64 v, .int .i64 8] w fun e w' => e = .returned (.tuple #[]) ∧ RWr W B g (bs ++ lowB v 8) w' :=
  rwnum_any h hbl v h0 h1 8 (by omega) (by omega) (by show v / 256 / 256 / 256 / 256 / 256 / 256 / 256 / 256 = 0; omega)
theorem RWr.bel (h : RWr W B g bs w) : Below B W w := by obtain ⟨_, _, _, _, hB, _⟩ := h; exact hB
theorem RWr.cell (h : RWr W B g bs w) {b i : Nat} {v : Value} (hb : b < B) (hc : W.cell? ⟨b, i, none⟩ = some v) : w.cell? ⟨b, i, none⟩ = some v := (h.bel.cell (p := ⟨b, i, none⟩) hb).trans hc
theorem RWr.str (h : RWr W B g bs w) (n : Nat) (hn : bs.length = n) (hl : 0 < n) : ∃ b c, w.cell? ⟨g, 0, none⟩ = some (.slice (some ⟨b, 0, none⟩) n c) ∧ (convert 84 9 (.slice (some ⟨b, 0, none⟩) n c)).run Tryz.prog w = .ok (.string (strOfNums bs)) w := by
  subst hn
  obtain ⟨a, c, hbk, ho, hB, hBg⟩ := h
  obtain ⟨b, x, rfl, _, _, _⟩ := ownCell ho hl
  refine ⟨b, c, hbk.cell 0, ?_⟩
  exact run_convert_bytes_arg (P := Tryz.prog) w 84 5 Tryz.underlying84 Tryz.underlying5 b 0 bs.length c bs rfl (fun i hi => by
    obtain ⟨b', x', e1, e2, e3, _⟩ := ownCell ho hi
    injection e1 with e1
    injection e1 with e1
    subst e1
    rw [Nat.zero_add, e3]
    rw [List.getElem?_map, List.getElem?_eq_getElem hi] at e2
    injection e2 with e2
    rw [← e2]
    simp [byteV, List.getElem?_eq_getElem hi]) 9 Tryz.underlying9
end
/-- A writer over a text's bytes that were laid ahead, as a constant lies. -/
theorem rw0_new (w : World) (cs : Array Value) (bs : List Int) (fr : Nat × Nat) (h : cs.toList = bs.map byteV) :
    RW0 w w.heap.size (w.heap.size + 1) w.heap.size bs ((w.alloc (.cells cs 5 fr)).alloc (.cells #[.slice (some ⟨w.heap.size, 0, none⟩) bs.length bs.length, .int .i64 0] TRWr)) := by
  have hs1 : (w.alloc (.cells cs 5 fr)).heap.size = w.heap.size + 1 := by simp
  refine ⟨?_, fun j u hu => ?_, by simp; omega, fun e => by have : w.heap.size = w.heap.size + 1 := e; omega, belowNew (belowNew (belowSame w) _) _, by omega⟩
  · rw [← hs1]
    exact Blk.new _ _ _
  · have hc : (w.alloc (.cells cs 5 fr)).cell? ⟨w.heap.size, j, none⟩ = some u := by
      rw [World.cell?_alloc_mark, ← Array.getElem?_toList, h]
      exact hu
    exact ((belowNew (belowSame (w.alloc (.cells cs 5 fr))) _).cell (p := ⟨w.heap.size, j, none⟩) (by show w.heap.size < (w.alloc (.cells cs 5 fr)).heap.size; omega)).trans hc
end Go.Proofs.YtakilnpfhljgfaaGreat.WI

/- commonsref1.Open, Read, Stamp. No condition. -/
namespace Go.Proofs.YtakilnpfhljgfaaGreat.SM
set_option maxRecDepth 100000
open Go.RowKit
set_option linter.unusedVariables false

theorem fits_sym (a b : ByteArray) (v : Bool) (h : (a.toList == b.toList) = v) : (b.toList == a.toList) = v := by rw [← h, BEq.comm]
def RefReadOut (b : ByteArray) (m : Nat) (w : World) (e : Ending) (w' : World) : Prop := e = .returned (if fitsR b = true then .tuple #[.string (b.extract 0 m), .int .i64 0] else .tuple #[.string ByteArray.empty, .int .i64 6]) ∧ Below w.heap.size w w'
theorem refstamp_arg (s : ByteArray) (n : Int) (h : n < 4 ∨ 60000 < n) (w : World) : Calls Tryz.prog 67 #[.string s, .int .i64 n] w fun e w' => e = .returned (.tuple #[.string ByteArray.empty, .int .i64 1]) ∧ w = w' := by
  by_cases h1 : n < 4
  · go_enter Tryz.func67, Tryz.ntmps67
    go_wp2
    go_ret2
    exact ⟨rfl, rfl⟩
  · have h2 : 60000 < n := by omega
    go_enter Tryz.func67, Tryz.ntmps67
    go_wp2
    go_ret2
    exact ⟨rfl, rfl⟩
theorem refstamp_long (s : ByteArray) (n : Int) (h1 : ¬ n < 4) (h2 : ¬ 60000 < n) (h3 : n - 4 < (s.size : Int)) (w : World) : Calls Tryz.prog 67 #[.string s, .int .i64 n] w fun e w' => e = .returned (.tuple #[.string ByteArray.empty, .int .i64 2]) ∧ w = w' := by
  go_enter Tryz.func67, Tryz.ntmps67
  go_wp2
  go_ret2
  exact ⟨rfl, rfl⟩
theorem infoU8 : (Tryz.prog.info? 5).map (fun i => (i.zero, i.size, i.bytes)) = some (some (.int .u8 0), 1, 1) := by kernel_rfl
theorem refstamp_ok (s : ByteArray) (n : Nat) (h1 : 4 ≤ n) (h2 : n ≤ 60000) (h3 : s.size ≤ n - 4) (w : World) : Calls Tryz.prog 67 #[.string s, .int .i64 (n : Int)] w fun e w' => e = .returned (.tuple #[.string (stampT s n), .int .i64 0]) ∧ Below w.heap.size w w' := by
  obtain ⟨k, hk⟩ : ∃ k : Nat, n - 4 - s.size = k := ⟨_, rfl⟩
  have hk2 : (n : Int) - 4 - (s.size : Int) = (k : Int) := by omega
  obtain ⟨i0, hi, hz0, hz1, hz2⟩ := info_parts infoU8
  have hcells : ∀ W : World, Cells (W.alloc (.cells (madeCells (Value.int .u8 0).cells (k * 1)) 5)) W.heap.size (List.replicate k 0) := fun W => by
    refine ⟨by simp, fun j x hx => ?_⟩
    have hb : Blk (W.alloc (.cells (madeCells (Value.int .u8 0).cells (k * 1)) 5)) W.heap.size 5 (madeCells (Value.int .u8 0).cells (k * 1)) := Blk.new _ _ _
    refine ⟨?_, hb.frozen j⟩
    rw [hb.cell]
    have hj : j < k := by
      rcases Nat.lt_or_ge j k with h | h
      · exact h
      · rw [List.getElem?_eq_none (by simpa using h)] at hx; cases hx
    rw [List.getElem?_replicate, if_pos hj] at hx
    injection hx with hx
    subst hx
    simp [madeCells, hj, Value.cells, Nat.mod_one]
  have hmk : ∀ W : World, (Instr.makeSlice 84 (.int .i64 (k : Int)) (.int .i64 (k : Int))).run Tryz.prog W = .ok (.slice (some ⟨W.heap.size, 0, none⟩) k k) (W.alloc (.cells (madeCells (Value.int .u8 0).cells (k * 1)) 5)) := fun W => by
    have hr := run_make (P := Tryz.prog) W 84 5 i0 (.int .u8 0) Tryz.underlying84 hi hz0 .i64 .i64 (k : Int) (k : Int) (by omega) (by omega) (by rw [hz2]; omega) (by omega)
    rw [hz1] at hr
    simp only [Int.toNat_natCast] at hr
    exact hr
  have hcv : ∀ W : World, (convert 84 9 (.slice (some ⟨W.heap.size, 0, none⟩) k k)).run Tryz.prog (W.alloc (.cells (madeCells (Value.int .u8 0).cells (k * 1)) 5)) = .ok (.string (zerosT k)) (W.alloc (.cells (madeCells (Value.int .u8 0).cells (k * 1)) 5)) := fun W => by
    have := (hcells W).str (P := Tryz.prog) 84 9 5 Tryz.underlying84 Tryz.underlying5 Tryz.underlying9 k k (by simp)
    rw [this]
    congr 2
    unfold zerosT
    have e : Lib.repeatL [0] k = List.replicate k 0 := by
      have := Lib.repeatL_replicate 0 1 k
      simpa using this
    rw [e]
  generalize hM : madeCells (Value.int .u8 0).cells (k * 1) = M at hmk hcv
  have hsz := zerosT_size k
  obtain ⟨p, hp⟩ : ∃ p, s ++ zerosT k = p := ⟨_, rfl⟩
  have hps : p.size = s.size + k := by rw [← hp]; simp [hsz]
  have hpl : p.size ≤ 60000 := by omega
  have hbb := sumL_b p.data.toList
  have hpad : stampT s n = p ++ WI.fourT (sumT p) := by unfold stampT padT; rw [hk, hp]
  have hfz := fourT_size (sumL p.data.toList)
  have hkb : k ≤ 60000 := by omega
  have hsb : s.size ≤ 60000 := by omega
  have hadd : ¬ 9223372036854775807 < s.size + k := by omega
  have hadd2 : ¬ 9223372036854775807 < s.size + (zerosT k).size := by omega
  have HP := Lib.hid hpad
  have HK := Lib.hid hk
  have HPS := Lib.hid hps
  have c1 : ¬ (n : Int) < 4 := by omega
  have c2 : ¬ (60000 : Int) < (n : Int) := by omega
  have c3 : ¬ (n : Int) - 4 < (s.size : Int) := by omega
  clear hk hpad hps hi hz0 hz1 hz2 hcells hM hsz
  go_enter Tryz.func67, Tryz.ntmps67
  go_wp2_with (first
    | (go_at_call 96; refine (refsum_any p _ (by unfold maxLen; omega)).mono ?_; rintro e w' ⟨rfl, rfl⟩)
    | (go_at_call 95; refine (WI.reffour_any _ hbb.1 hbb.2 _).mono ?_; rintro e w2 ⟨rfl, hw2⟩))
  go_ret2
  exact ⟨by rw [HP.out]; rfl, belowThen (belowNew (belowSame _) _) hw2⟩
end Go.Proofs.YtakilnpfhljgfaaGreat.SM

/- The document's own answer: ValidShape, Size, PutShape of the laws' shape. No condition. -/
namespace Go.Proofs.YtakilnpfhljgfaaGreat.RD
set_option maxRecDepth 100000
open Go.RowKit Go.Proofs.YtakilnpfhljgfaaGreat.WI Go.Proofs.YtakilnpfhljgfaaGreat.SM Go.Proofs.YtakilnpfhljgfaaGreat.SU
set_option linter.unusedVariables false
set_option linter.unusedSimpArgs false

theorem rvalid0 (w : World) : Calls Tryz.prog 54 #[sagg sh0] w fun e w' => e = .returned (.bool true) ∧ Below w.heap.size w w' := by
  unfold sagg sh0
  go_enter Tryz.func54, Tryz.ntmps54
  go_wp2
  exact end_ret (t := 2) (v := .bool true) (by kernel_rfl) rfl rfl ⟨rfl, belowNew (belowSame w) _⟩
theorem rsize0 (w : World) : Calls Tryz.prog 27 #[sagg sh0] w fun e w' => e = .returned (.int .i64 37) ∧ Below w.heap.size w w' := by
  have kv := fun W => rvalid0 W
  have hbn := Blk.new w TSh (scells sh0)
  have hb0 := belowNew (belowSame w) (.cells (scells sh0) TSh)
  have HBN := Lib.hid hbn
  have HB0 := Lib.hid hb0
  unfold sagg sh0 at *
  clear hbn hb0
  go_enter Tryz.func27, Tryz.ntmps27
  go_wp2_with (go_at_call 54; refine (kv _).mono ?_; rintro x w1 ⟨rfl, hb1⟩; have bk := HBN.out.below hb1 HBN.out.lt; have c0 : w1.cell? ⟨w.heap.size, 0, none⟩ = some (.int .i64 2) := bk.cell 0; have c1 : w1.cell? ⟨w.heap.size, 1, none⟩ = some (.int .i64 10) := bk.cell 1; have c2 : w1.cell? ⟨w.heap.size, 2, none⟩ = some (.int .i64 8) := bk.cell 2; have B1 := Lib.hid (belowThen HB0.out hb1); clear bk hb1)
  exact end_ret (t := 2) (v := .int .i64 37) (by kernel_rfl) rfl rfl ⟨rfl, B1.out⟩
def magicL : List Int := [67, 79, 77, 77, 79, 78, 83, 49]
set_option maxHeartbeats 4000000 in
theorem rput0 (w : World) : Calls Tryz.prog 31 #[sagg sh0] w fun e w' => e = .returned (.tuple #[.string (superT sh0), .int .i64 0]) ∧ Below w.heap.size w w' := by
  have kv := fun W => rvalid0 W
  have ks := fun W => refstamp_ok (superB sh0) 64 (by omega) (by omega) (by rw [superB_size]; omega) W
  have hT : superT sh0 = stampT (superB sh0) 64 := rfl
  rw [hT]
  generalize stampT (superB sh0) 64 = T at *
  have hU : strOfNums ((((((magicL ++ lowB 2 4) ++ lowB 10 4) ++ lowB 8 4) ++ lowB 4 4) ++ lowB 32 4)) = superB sh0 := by decide +kernel
  generalize superB sh0 = U at *
  have HU := Lib.hid hU
  have hbn := Blk.new w TSh (scells sh0)
  have hb0 := belowNew (belowSame w) (.cells (scells sh0) TSh)
  have HBN := Lib.hid hbn
  have HB0 := Lib.hid hb0
  have kn := fun (w1 : World) => rw0_new w1 #[.int .u8 67, .int .u8 79, .int .u8 77, .int .u8 77, .int .u8 79, .int .u8 78, .int .u8 83, .int .u8 49] magicL (8, 9) rfl
  have cvc := fun (w1 : World) => Lib.run_convert_bytes_const (P := Tryz.prog) w1 84 5 #[.int .u8 67, .int .u8 79, .int .u8 77, .int .u8 77, .int .u8 79, .int .u8 78, .int .u8 83, .int .u8 49] 8 8 Tryz.underlying84 Tryz.underlying5
  unfold sagg sh0 at *
  clear hbn hb0 hT hU
  go_enter Tryz.func31, Tryz.ntmps31
  go_upto_region 4 with (go_at_call 54; refine (kv _).mono ?_; rintro x w1 ⟨rfl, hb1⟩; have BN1 := Lib.hid (HBN.out.below hb1 HBN.out.lt); have B1 := Lib.hid (belowThen HB0.out hb1); clear hb1)
  have hw := kn w1
  have bk := BN1.out
  have C0 : Hid (w1.cell? ⟨w.heap.size, 0, none⟩ = some (.int .i64 2)) := Lib.hid (bk.cell 0)
  have C1 : Hid (w1.cell? ⟨w.heap.size, 1, none⟩ = some (.int .i64 10)) := Lib.hid (bk.cell 1)
  have C2 : Hid (w1.cell? ⟨w.heap.size, 2, none⟩ = some (.int .i64 8)) := Lib.hid (bk.cell 2)
  have C3 : Hid (w1.cell? ⟨w.heap.size, 3, none⟩ = some (.int .i64 4)) := Lib.hid (bk.cell 3)
  have C4 : Hid (w1.cell? ⟨w.heap.size, 4, none⟩ = some (.int .i64 32)) := Lib.hid (bk.cell 4)
  have hlt := bk.lt
  have hs1 : (w1.alloc (.cells #[.int .u8 67, .int .u8 79, .int .u8 77, .int .u8 77, .int .u8 79, .int .u8 78, .int .u8 83, .int .u8 49] 5 (8, 9))).heap.size = w1.heap.size + 1 := by simp
  have hw2 : RW0 w1 w1.heap.size (w1.heap.size + 1) w1.heap.size magicL ((w1.alloc (.cells #[.int .u8 67, .int .u8 79, .int .u8 77, .int .u8 77, .int .u8 79, .int .u8 78, .int .u8 83, .int .u8 49] 5 (8, 9))).alloc (.cells #[.slice (some ⟨w1.heap.size, 0, none⟩) 8 8, .int .i64 0] TRWr)) := hw
  obtain ⟨W2, hW2⟩ : ∃ W2, ((w1.alloc (.cells #[.int .u8 67, .int .u8 79, .int .u8 77, .int .u8 77, .int .u8 79, .int .u8 78, .int .u8 83, .int .u8 49] 5 (8, 9))).alloc (.cells #[.slice (some ⟨w1.heap.size, 0, none⟩) 8 8, .int .i64 0] TRWr)) = W2 := ⟨_, rfl⟩
  rw [hW2] at hw2 ⊢
  obtain ⟨g, hg⟩ : ∃ g, w1.heap.size + 1 = g := ⟨_, rfl⟩
  try rw [hs1]
  rw [hg] at hw2
  try rw [hg]
  have H2 := Lib.hid hw2
  have s0 := (hw2.2.2.2.2.1.cell (p := ⟨w.heap.size, 0, none⟩) hlt).trans C0.out
  have k1 := rwfirst_4 hw2 (by decide) 2 (by decide) (by decide)
  have HLT := Lib.hid hlt
  clear hw hw2 bk hs1 hW2 hg hlt kn kv cvc
  go_wp2_with (first
    | (go_at_call 66; ((with_reducible refine k1.mono ?_); rintro x w3 ⟨rfl, h3⟩); have s1 := h3.cell HLT.out C1.out; have k2 := rwnum_4 h3 (by simp [lowB_len, magicL]) 10 (by decide) (by decide); clear k1 h3)
    | (go_at_call 66; ((with_reducible refine k2.mono ?_); rintro x w4 ⟨rfl, h4⟩); have s2 := h4.cell HLT.out C2.out; have k3 := rwnum_4 h4 (by simp [lowB_len, magicL]) 8 (by decide) (by decide); clear k2 h4)
    | (go_at_call 66; ((with_reducible refine k3.mono ?_); rintro x w5 ⟨rfl, h5⟩); have s3 := h5.cell HLT.out C3.out; have k4 := rwnum_4 h5 (by simp [lowB_len, magicL]) 4 (by decide) (by decide); clear k3 h5)
    | (go_at_call 66; ((with_reducible refine k4.mono ?_); rintro x w6 ⟨rfl, h6⟩); have s4 := h6.cell HLT.out C4.out; have k5 := rwnum_4 h6 (by simp [lowB_len, magicL]) 32 (by decide) (by decide); clear k4 h6)
    | (go_at_call 66; ((with_reducible refine k5.mono ?_); rintro x w7 ⟨rfl, h7⟩); obtain ⟨b7, c7, y7, cv7⟩ := h7.str 28 (by simp [lowB_len, magicL]) (by decide); rw [HU.out] at cv7; have H7 := Lib.hid h7.bel; clear k5 h7)
    | (go_at_call 67; refine (ks _).mono ?_; rintro x w8 ⟨rfl, h8⟩; have H8 := Lib.hid h8; clear h8))
  go_ret2
  have hA := belowThen B1.out H7.out
  exact ⟨rfl, belowThen hA H8.out⟩
end Go.Proofs.YtakilnpfhljgfaaGreat.RD

/- commonslaw10.Ready. No condition. -/
namespace Go.Proofs.YtakilnpfhljgfaaGreat.BK
set_option maxRecDepth 100000
open Go.RowKit Go.Proofs.YtakilnpfhljgfaaGreat.MI Go.Proofs.YtakilnpfhljgfaaGreat.WI Go.Proofs.YtakilnpfhljgfaaGreat.SM Go.Proofs.YtakilnpfhljgfaaGreat.DK Go.Proofs.YtakilnpfhljgfaaGreat.SU Go.Proofs.YtakilnpfhljgfaaGreat.RD
set_option linter.unusedVariables false
set_option linter.unusedSimpArgs false

def R0 : Rk := ⟨37, [], fun _ => 0, fun _ => 0, 0⟩
def RA : Rk := { R0 with table := updF R0.table 0 1, last := 1 }
def RB : Rk := moreK RA 0 0 (superT sh0) 1
def RC : Rk := { RB with L := RB.L.map (hit 0) }
def RDD : Rk := { RC with L := RC.L.map (hit 0), table := updF RC.table 0 0 }
/-- What the document's own disk holds when the laws begin. -/
def RR : Rk := { RDD with table := updF RDD.table 1 9, last := 9 }
theorem rr_len : RR.L.length = 1 := by unfold RR RDD RC RB moreK RA R0 rowsW; rfl
theorem rdnew (w : World) (W : World) (B : Nat) (hb : B ≤ w.heap.size) : RdAt (w.alloc (.cells #[.int .i64 37, .slice none 0 0, .bool false, .int .u64 0, .int .u64 0, .int .u64 0, .int .u64 0, .int .u64 0, .int .u64 0, .int .u64 0, .int .u64 0, .int .u64 0, .int .u64 0, .int .u64 0, .int .u64 0, .int .u64 0, .int .u64 0, .int .u64 0, .int .u64 0, .int .u64 0, .int .u64 0, .int .u64 0, .int .u64 0, .int .u64 0, .int .u64 0, .int .u64 0, .int .u64 0, .int .u64 0, .int .u64 0, .int .u64 0, .int .u64 0, .int .u64 0, .int .u64 0, .int .u64 0, .int .u64 0, .int .u64 0, .int .u64 0, .int .u64 0, .bool false, .int .i64 0, .slice none 0 0] TRD)) B w.heap.size R0 := ⟨none, 0, Blk.new _ _ _, World.ownsRow_nil _ _ _ _, hb⟩
def NR : Nat := 0 + 16 * zRounds (sizeI sh0) + 16
theorem nr_le : NR ≤ 1000000 := by decide +kernel
/-- Our disk, and beside it the document's, made behind it. -/
def ReadyOut (w : World) (e : Ending) (w' : World) : Prop :=
  ∃ g r p C, e = .returned (.tuple #[.pointer (some ⟨g, 0, none⟩), .pointer (some ⟨r, 0, none⟩), sagg sh0, .bool true]) ∧ DiskAt w' w.heap.size g p NR DR ∧ Below w.heap.size w w' ∧ RdAt w' C r RR ∧ (∀ k, fp g p k → k < C) ∧ w.heap.size ≤ C
theorem own_admit3 {w0 W : World} {g N : Nat} {D : Dk} {x : Nat} {T : TypeId} {cs : Array Value} (h : Own2 w0 g N D x T cs W) (n e : Int) (hN : N ≤ 10000000) (D' : Dk) (h1 : admitE D n e = 0) (h2 : admitK D n e = D') :
    Calls Tryz.prog 30 #[.pointer (some ⟨g, 0, none⟩), .int .i64 n, .int .u64 e] W fun e' w' => e' = .returned (.int .i64 0) ∧ Own2 w0 g N D' x T cs w' := by
  have := own2_admit h n e hN
  rw [h1, h2] at this
  exact this
/-- The document's disk behind each of Ready's calls. -/
theorem rseq {w W : World} {C r : Nat} (h : RdAt W C r R0) :
    Calls Tryz.prog 32 #[.pointer (some ⟨r, 0, none⟩), .int .i64 0, .int .u64 1] W fun e' w' => e' = .returned (.int .i64 0) ∧ RdOut W C r RA w' := ra_any h 0 1 rfl (by decide)
theorem rseq2 {W : World} {C r : Nat} (h : RdAt W C r RA) :
    Calls Tryz.prog 33 #[.pointer (some ⟨r, 0, none⟩), .int .i64 0, .int .u64 1, .int .i64 0, .string (superT sh0)] W fun e' w' => e' = .returned (.int .i64 0) ∧ RdOut W C r RB w' := rwrite_ok h 0 1 0 (superT sh0) 1 (by rw [superT_size]) (by decide) rfl (by unfold rmayE RA; decide) (by unfold RA R0; decide) (by unfold RA R0; decide) (by unfold RA R0; decide)
theorem rseq3 {W : World} {C r : Nat} (h : RdAt W C r RB) :
    Calls Tryz.prog 34 #[.pointer (some ⟨r, 0, none⟩), .int .i64 0, .int .u64 1] W fun e' w' => e' = .returned (.int .i64 0) ∧ RdOut W C r RC w' := rbarrier_any h 0 1 (by unfold rmayE RB moreK RA; decide) (by unfold RB moreK RA R0 rowsW rowsW; decide)
theorem rseq4 {W : World} {C r : Nat} (h : RdAt W C r RC) :
    Calls Tryz.prog 35 #[.pointer (some ⟨r, 0, none⟩), .int .i64 0] W fun e' w' => e' = .returned (.int .i64 0) ∧ RdOut W C r RDD w' := rfence_any h 0 rfl (by unfold RC RB moreK RA R0 rowsW rowsW; simp)
theorem rseq5 {W : World} {C r : Nat} (h : RdAt W C r RDD) :
    Calls Tryz.prog 32 #[.pointer (some ⟨r, 0, none⟩), .int .i64 1, .int .u64 9] W fun e' w' => e' = .returned (.int .i64 0) ∧ RdOut W C r RR w' := ra_any h 1 9 rfl (by unfold RDD RC RB moreK RA; decide)
theorem df_load {w0 W : World} {g N : Nat} (h : Own w0 g N DF W) :
    Calls Tryz.prog 29 #[.pointer (some ⟨g, 0, none⟩)] W fun x w' => x = .returned (.tuple #[sagg sh0, .int .i64 0]) ∧ Own w0 g N DF w' ∧ Below W.heap.size W w' := by
  obtain ⟨r1, r2⟩ := format_read (D := newK 37) (s := sh0) rfl rfl (by decide) good0 df_room
  exact load_any h sh0 good0 (by rw [df_up.2.2.1, z37]; decide) r1 r2
set_option maxHeartbeats 8000000 in
theorem ready_any (w : World) : Calls Tryz.prog 8 #[] w (ReadyOut w) := by
  have ksh := fun W => shape_any W
  have krs := fun W => rsize0 W
  have krp := fun W => rput0 W
  have kn : ∀ W : World, Below W.heap.size W W → Calls Tryz.prog 26 #[.int .i64 37] W (OwnNew W 37) := fun W h => own_new W h 37 (by omega) (by omega)
  have kf := fun (w0 W : World) (g : Nat) (h : Own w0 g 0 (newK 37) W) => format_any h sh0 rfl rfl (by decide) good0 df_room (by omega)
  have kld := fun (w0 W : World) (g : Nat) (h : Own w0 g NR DF W) => df_load h
  have kad := fun (w0 W : World) (g : Nat) (x : Nat) (T : TypeId) (cs : Array Value) (h : Own2 w0 g NR DF x T cs W) => own_admit3 h 1 9 (Nat.le_trans nr_le (by decide)) DR df_admit.1 df_admit.2
  have kr1 := fun (W : World) (C r : Nat) (h : RdAt W C r R0) => rseq (w := w) h
  have kr2 := fun (W : World) (C r : Nat) (h : RdAt W C r RA) => rseq2 h
  have kr3 := fun (W : World) (C r : Nat) (h : RdAt W C r RB) => rseq3 h
  have kr4 := fun (W : World) (C r : Nat) (h : RdAt W C r RC) => rseq4 h
  have kr5 := fun (W : World) (C r : Nat) (h : RdAt W C r RDD) => rseq5 h
  unfold ReadyOut
  have hz : (0 + 16 * zRounds (sizeI sh0) + 16 : Nat) = NR := rfl
  rw [hz] at kf
  rw [show formatK (newK 37) sh0 = DF from rfl] at kf
  have hst : DR.stays = [] := dr_ready.calm.stays
  have HST0 := Lib.hid hst
  clear hst
  generalize NR = N at *
  generalize DF = D1 at *
  generalize DR = D2 at *
  generalize superT sh0 = ST at *
  have HR := Lib.hid (fun (W : World) (C : Nat) (h : C ≤ W.heap.size) => rdnew W W C h)
  generalize R0 = Ra at *
  generalize RA = Rb at *
  generalize RB = Rc at *
  generalize RC = Rd at *
  generalize RDD = Re at *
  generalize RR = Rf at *
  clear hz
  unfold sagg sh0 at *
  have hl0 := Blk.new w TLa #[.int .i64 0, .int .i64 0, .int .i64 0, .int .i64 0, .int .i64 0]
  have hb0 := belowNew (belowSame w) (.cells #[.int .i64 0, .int .i64 0, .int .i64 0, .int .i64 0, .int .i64 0] TLa)
  have HL0 := Lib.hid hl0
  have HB0 := Lib.hid hb0
  clear hl0 hb0
  go_enter Tryz.func8, Tryz.ntmps8
  go_upto_region 2 with (go_at_call 25; refine (ksh _).mono ?_; rintro x w1 ⟨rfl, hb1⟩; have B1 := Lib.hid (belowThen HB0.out hb1); have L1 := Lib.hid (HL0.out.below hb1 HL0.out.lt); clear hb1)
  have hs := Blk.new w1 TSh #[.int .i64 2, .int .i64 10, .int .i64 8, .int .i64 4, .int .i64 32]
  have hb2 := belowNew B1.out (.cells #[.int .i64 2, .int .i64 10, .int .i64 8, .int .i64 4, .int .i64 32] TSh)
  have hl2 := L1.out.below (belowNew (belowSame w1) (.cells #[.int .i64 2, .int .i64 10, .int .i64 8, .int .i64 4, .int .i64 32] TSh)) L1.out.lt
  obtain ⟨W2, hW2⟩ : ∃ W2, w1.alloc (.cells #[.int .i64 2, .int .i64 10, .int .i64 8, .int .i64 4, .int .i64 32] TSh) = W2 := ⟨_, rfl⟩
  rw [hW2] at hs hb2 hl2 ⊢
  obtain ⟨xs, hxs⟩ : ∃ x, w1.heap.size = x := ⟨_, rfl⟩
  rw [hxs] at hs ⊢
  obtain ⟨x2, hx2⟩ : ∃ x, w.heap.size = x := ⟨_, rfl⟩
  have HX2 := Lib.hid hx2
  rw [hx2] at hl2
  have c0 : W2.cell? ⟨xs, 0, none⟩ = some (.int .i64 2) := hs.cell 0
  have c1 : W2.cell? ⟨xs, 1, none⟩ = some (.int .i64 10) := hs.cell 1
  have c2 : W2.cell? ⟨xs, 2, none⟩ = some (.int .i64 8) := hs.cell 2
  have c3 : W2.cell? ⟨xs, 3, none⟩ = some (.int .i64 4) := hs.cell 3
  have c4 : W2.cell? ⟨xs, 4, none⟩ = some (.int .i64 32) := hs.cell 4
  have S2 := Lib.hid hs
  have L2 := Lib.hid hl2
  have B2 := Lib.hid hb2
  clear hs hl2 hb2 hW2 hxs L1 B1 HL0 HB0
  go_upto_region 3 with (first
    | (go_at_call 27; refine (krs _).mono ?_; rintro x w3 ⟨rfl, hb3⟩; have S3 := Lib.hid (S2.out.below hb3 S2.out.lt); have L3 := Lib.hid (L2.out.below hb3 L2.out.lt); have B3 := Lib.hid (belowThen B2.out hb3); clear hb3)
    | (go_at_call 26; refine (kn w3 (belowSame w3)).mono ?_; rintro x w4 ⟨g, rfl, ho4⟩; have bs := S3.out.below ho4.bel S3.out.lt; have k0 : w4.cell? ⟨xs, 0, none⟩ = some (.int .i64 2) := bs.cell 0; have k1 : w4.cell? ⟨xs, 1, none⟩ = some (.int .i64 10) := bs.cell 1; have k2 : w4.cell? ⟨xs, 2, none⟩ = some (.int .i64 8) := bs.cell 2; have k3 : w4.cell? ⟨xs, 3, none⟩ = some (.int .i64 4) := bs.cell 3; have k4 : w4.cell? ⟨xs, 4, none⟩ = some (.int .i64 32) := bs.cell 4; have H4 := Lib.hid ho4; clear ho4 bs c0 c1 c2 c3 c4))
  go_upto_region 4 with (go_at_call 28; refine (kf _ _ _ H4.out).mono ?_; rintro x w5 ⟨rfl, ho5⟩; have H5 := Lib.hid ho5; clear ho5 k0 k1 k2 k3 k4)
  go_upto_region 5 with (go_at_call 29; refine (kld _ _ _ H5.out).mono ?_; rintro x w6 ⟨rfl, ho6, hb6⟩; have H6 := Lib.hid ho6; clear ho6 hb6)
  have h7 := Own.beside H6.out TLa #[.int .i64 2, .int .i64 10, .int .i64 8, .int .i64 4, .int .i64 32]
  obtain ⟨W7, hW7⟩ : ∃ W7, w6.alloc (.cells #[.int .i64 2, .int .i64 10, .int .i64 8, .int .i64 4, .int .i64 32] TLa) = W7 := ⟨_, rfl⟩
  rw [hW7] at h7 ⊢
  obtain ⟨x7, hx7⟩ : ∃ x, w6.heap.size = x := ⟨_, rfl⟩
  rw [hx7] at h7 ⊢
  have H7 := Lib.hid h7
  clear h7 hW7 hx7
  go_upto_region 7 with (go_at_call 30; refine (kad _ _ _ _ _ _ H7.out).mono ?_; rintro x w8 ⟨rfl, ho8⟩; have bs := S3.out.below ho8.own.bel S3.out.lt; have m0 : w8.cell? ⟨xs, 0, none⟩ = some (.int .i64 2) := bs.cell 0; have m1 : w8.cell? ⟨xs, 1, none⟩ = some (.int .i64 10) := bs.cell 1; have m2 : w8.cell? ⟨xs, 2, none⟩ = some (.int .i64 8) := bs.cell 2; have m3 : w8.cell? ⟨xs, 3, none⟩ = some (.int .i64 4) := bs.cell 3; have m4 : w8.cell? ⟨xs, 4, none⟩ = some (.int .i64 32) := bs.cell 4; have S8 := Lib.hid bs; have L8 := Lib.hid (L3.out.below ho8.own.bel L3.out.lt); have H8 := Lib.hid ho8; clear ho8 bs)
  go_upto_region 8 with (go_at_call 27; refine (krs _).mono ?_; rintro x w9 ⟨rfl, hb9⟩; have S9 := Lib.hid (S8.out.below hb9 S8.out.lt); have L9 := Lib.hid (L8.out.below hb9 L8.out.lt); have H9 := Lib.hid (H8.out.then_ hb9); clear hb9 m0 m1 m2 m3 m4)
  have hr := HR.out w9 w9.heap.size (Nat.le_refl _)
  have hb10 := belowNew (belowSame w9) (.cells #[.int .i64 37, .slice none 0 0, .bool false, .int .u64 0, .int .u64 0, .int .u64 0, .int .u64 0, .int .u64 0, .int .u64 0, .int .u64 0, .int .u64 0, .int .u64 0, .int .u64 0, .int .u64 0, .int .u64 0, .int .u64 0, .int .u64 0, .int .u64 0, .int .u64 0, .int .u64 0, .int .u64 0, .int .u64 0, .int .u64 0, .int .u64 0, .int .u64 0, .int .u64 0, .int .u64 0, .int .u64 0, .int .u64 0, .int .u64 0, .int .u64 0, .int .u64 0, .int .u64 0, .int .u64 0, .int .u64 0, .int .u64 0, .int .u64 0, .int .u64 0, .bool false, .int .i64 0, .slice none 0 0] TRD)
  obtain ⟨W10, hW10⟩ : ∃ W10, w9.alloc (.cells #[.int .i64 37, .slice none 0 0, .bool false, .int .u64 0, .int .u64 0, .int .u64 0, .int .u64 0, .int .u64 0, .int .u64 0, .int .u64 0, .int .u64 0, .int .u64 0, .int .u64 0, .int .u64 0, .int .u64 0, .int .u64 0, .int .u64 0, .int .u64 0, .int .u64 0, .int .u64 0, .int .u64 0, .int .u64 0, .int .u64 0, .int .u64 0, .int .u64 0, .int .u64 0, .int .u64 0, .int .u64 0, .int .u64 0, .int .u64 0, .int .u64 0, .int .u64 0, .int .u64 0, .int .u64 0, .int .u64 0, .int .u64 0, .int .u64 0, .int .u64 0, .bool false, .int .i64 0, .slice none 0 0] TRD) = W10 := ⟨_, rfl⟩
  rw [hW10] at hr hb10 ⊢
  have h10 : ROwn w9 w9.heap.size Ra W10 := ⟨hr, hb10⟩
  obtain ⟨r, hrr⟩ : ∃ r, w9.heap.size = r := ⟨_, rfl⟩
  have h10b : ROwn w9 r Ra W10 := hrr ▸ h10
  rw [hrr]
  have bs := S9.out.below hb10 S9.out.lt
  have n0 : W10.cell? ⟨xs, 0, none⟩ = some (.int .i64 2) := bs.cell 0
  have n1 : W10.cell? ⟨xs, 1, none⟩ = some (.int .i64 10) := bs.cell 1
  have n2 : W10.cell? ⟨xs, 2, none⟩ = some (.int .i64 8) := bs.cell 2
  have n3 : W10.cell? ⟨xs, 3, none⟩ = some (.int .i64 4) := bs.cell 3
  have n4 : W10.cell? ⟨xs, 4, none⟩ = some (.int .i64 32) := bs.cell 4
  have Q10 := Lib.hid h10b
  clear hr hb10 hW10 h10 h10b hrr bs HR
  go_upto_region 9 with (go_at_call 31; refine (krp _).mono ?_; rintro x w11 ⟨rfl, hb11⟩; have Q11 := Lib.hid (Q10.out.then_ hb11); clear hb11 Q10 n0 n1 n2 n3 n4)
  go_upto_region 10 with (go_at_call 32; refine (kr1 _ _ _ Q11.out.1).mono ?_; rintro x w12 ⟨rfl, ho0⟩; have ho := RdOut.own Q11.out ho0; have Q12 := Lib.hid ho; clear ho ho0)
  go_upto_region 11 with (go_at_call 33; refine (kr2 _ _ _ Q12.out.1).mono ?_; rintro x w13 ⟨rfl, ho0⟩; have ho := RdOut.own Q12.out ho0; have Q13 := Lib.hid ho; clear ho ho0)
  go_upto_region 12 with (go_at_call 34; refine (kr3 _ _ _ Q13.out.1).mono ?_; rintro x w14 ⟨rfl, ho0⟩; have ho := RdOut.own Q13.out ho0; have Q14 := Lib.hid ho; clear ho ho0)
  go_upto_region 13 with (go_at_call 35; refine (kr4 _ _ _ Q14.out.1).mono ?_; rintro x w15 ⟨rfl, ho0⟩; have ho := RdOut.own Q14.out ho0; have Q15 := Lib.hid ho; clear ho ho0)
  go_upto_region 14 with (go_at_call 32; refine (kr5 _ _ _ Q15.out.1).mono ?_; rintro x w16 ⟨rfl, ho0⟩; have ho := RdOut.own Q15.out ho0; have Q16 := Lib.hid ho; have bl := L9.out.below ho.2 L9.out.lt; have bq := H9.out.blk.below ho.2 H9.out.blk.lt; have l0 : w16.cell? ⟨x2, 0, none⟩ = some (.int .i64 0) := bl.cell 0; have f0 := bl.frozen 0; have q0 : w16.cell? ⟨x7, 0, none⟩ = some (.int .i64 2) := bq.cell 0; have l1 : w16.cell? ⟨x2, 1, none⟩ = some (.int .i64 0) := bl.cell 1; have f1 := bl.frozen 1; have q1 : w16.cell? ⟨x7, 1, none⟩ = some (.int .i64 10) := bq.cell 1; have l2 : w16.cell? ⟨x2, 2, none⟩ = some (.int .i64 0) := bl.cell 2; have f2 := bl.frozen 2; have q2 : w16.cell? ⟨x7, 2, none⟩ = some (.int .i64 8) := bq.cell 2; have l3 : w16.cell? ⟨x2, 3, none⟩ = some (.int .i64 0) := bl.cell 3; have f3 := bl.frozen 3; have q3 : w16.cell? ⟨x7, 3, none⟩ = some (.int .i64 4) := bq.cell 3; have l4 : w16.cell? ⟨x2, 4, none⟩ = some (.int .i64 0) := bl.cell 4; have f4 := bl.frozen 4; have q4 : w16.cell? ⟨x7, 4, none⟩ = some (.int .i64 32) := bq.cell 4; have LF := Lib.hid bl; clear bl bq; clear ho ho0)
  have hfin : ∀ e : Ending, e = .returned (.tuple #[.pointer (some ⟨g, 0, none⟩), .pointer (some ⟨r, 0, none⟩), .agg #[.int .i64 2, .int .i64 10, .int .i64 8, .int .i64 4, .int .i64 32], .bool true]) → ∃ g r p C, e = .returned (.tuple #[.pointer (some ⟨g, 0, none⟩), .pointer (some ⟨r, 0, none⟩), .agg #[.int .i64 2, .int .i64 10, .int .i64 8, .int .i64 4, .int .i64 32], .bool true]) ∧ DiskAt ((((((w16.setCell ⟨x2, 0, none⟩ (.int .i64 2)).setCell ⟨x2, 1, none⟩ (.int .i64 10)).setCell ⟨x2, 2, none⟩ (.int .i64 8)).setCell ⟨x2, 3, none⟩ (.int .i64 4)).setCell ⟨x2, 4, none⟩ (.int .i64 32))).drew w.heap.size g p N D2 ∧ Below w.heap.size w ((((((w16.setCell ⟨x2, 0, none⟩ (.int .i64 2)).setCell ⟨x2, 1, none⟩ (.int .i64 10)).setCell ⟨x2, 2, none⟩ (.int .i64 8)).setCell ⟨x2, 3, none⟩ (.int .i64 4)).setCell ⟨x2, 4, none⟩ (.int .i64 32))).drew ∧ RdAt ((((((w16.setCell ⟨x2, 0, none⟩ (.int .i64 2)).setCell ⟨x2, 1, none⟩ (.int .i64 10)).setCell ⟨x2, 2, none⟩ (.int .i64 8)).setCell ⟨x2, 3, none⟩ (.int .i64 4)).setCell ⟨x2, 4, none⟩ (.int .i64 32))).drew C r Rf ∧ (∀ k, fp g p k → k < C) ∧ w.heap.size ≤ C := by
    intro e he
    obtain ⟨p, hd, hbd⟩ := H9.out.own
    have hbw := B3.out
    have hx : x2 < w3.heap.size := L3.out.lt
    have hsz9 := hbd.size
    have hd2 := hd.old Q16.out.2
    have hk : Keeps (only x2) w16 (((((w16.setCell ⟨x2, 0, none⟩ (.int .i64 2)).setCell ⟨x2, 1, none⟩ (.int .i64 10)).setCell ⟨x2, 2, none⟩ (.int .i64 8)).setCell ⟨x2, 3, none⟩ (.int .i64 4)).setCell ⟨x2, 4, none⟩ (.int .i64 32)) := (((((Keeps.refl (only x2) w16).cell_ 0 _).cell_ 1 _).cell_ 2 _).cell_ 3 _).cell_ 4 _
    refine ⟨g, r, p, w9.heap.size, he, (disk_low (disk_keeps hd2 HST0.out hk (fun k h1 h2 => ?_)) hbw.size).drew, belowDrew ?_, (Q16.out.1.keeps hk ?_ ?_).old (belowDrew (belowSame _)), fun k h1 => hd.lt k h1, ?_⟩
    · have h3 := hd2.ge k h1
      have h4 : k = x2 := h2
      omega
    · have hb16 : Below w.heap.size w w16 := (hbw.trans (hbd.mono hbw.size)).trans (Q16.out.2.mono (by have := hbw.size; omega))
      have hx2 : w.heap.size ≤ x2 := by have := HX2.out; omega
      exact ((((hb16.setCell (p := ⟨x2, 0, none⟩) hx2 _).setCell (p := ⟨x2, 1, none⟩) hx2 _).setCell (p := ⟨x2, 2, none⟩) hx2 _).setCell (p := ⟨x2, 3, none⟩) hx2 _).setCell (p := ⟨x2, 4, none⟩) hx2 _
    · intro h1
      have h2 : r = x2 := h1
      have := Q16.out.1.ge
      omega
    · intro k h1 h2
      have h3 : k = x2 := h2
      omega
    · have := hbw.size
      omega
  have HF := Lib.hid hfin
  clear hfin
  go_region_law (fail)
  all_goals
    go_wp2_with fail
    have b4 := ((((LF.out.set_ 0 (.int .i64 2)).set_ 1 (.int .i64 10)).set_ 2 (.int .i64 8)).set_ 3 (.int .i64 4)).set_ 4 (.int .i64 32)
    have d0 : (((((w16.setCell ⟨x2, 0, none⟩ (.int .i64 2)).setCell ⟨x2, 1, none⟩ (.int .i64 10)).setCell ⟨x2, 2, none⟩ (.int .i64 8)).setCell ⟨x2, 3, none⟩ (.int .i64 4)).setCell ⟨x2, 4, none⟩ (.int .i64 32)).cell? ⟨x2, 0, none⟩ = some (.int .i64 2) := b4.cell 0
    have d1 : (((((w16.setCell ⟨x2, 0, none⟩ (.int .i64 2)).setCell ⟨x2, 1, none⟩ (.int .i64 10)).setCell ⟨x2, 2, none⟩ (.int .i64 8)).setCell ⟨x2, 3, none⟩ (.int .i64 4)).setCell ⟨x2, 4, none⟩ (.int .i64 32)).cell? ⟨x2, 1, none⟩ = some (.int .i64 10) := b4.cell 1
    have d2 : (((((w16.setCell ⟨x2, 0, none⟩ (.int .i64 2)).setCell ⟨x2, 1, none⟩ (.int .i64 10)).setCell ⟨x2, 2, none⟩ (.int .i64 8)).setCell ⟨x2, 3, none⟩ (.int .i64 4)).setCell ⟨x2, 4, none⟩ (.int .i64 32)).cell? ⟨x2, 2, none⟩ = some (.int .i64 8) := b4.cell 2
    have d3 : (((((w16.setCell ⟨x2, 0, none⟩ (.int .i64 2)).setCell ⟨x2, 1, none⟩ (.int .i64 10)).setCell ⟨x2, 2, none⟩ (.int .i64 8)).setCell ⟨x2, 3, none⟩ (.int .i64 4)).setCell ⟨x2, 4, none⟩ (.int .i64 32)).cell? ⟨x2, 3, none⟩ = some (.int .i64 4) := b4.cell 3
    have d4 : (((((w16.setCell ⟨x2, 0, none⟩ (.int .i64 2)).setCell ⟨x2, 1, none⟩ (.int .i64 10)).setCell ⟨x2, 2, none⟩ (.int .i64 8)).setCell ⟨x2, 3, none⟩ (.int .i64 4)).setCell ⟨x2, 4, none⟩ (.int .i64 32)).cell? ⟨x2, 4, none⟩ = some (.int .i64 32) := b4.cell 4
    exact bodyPost_ret (v := .tuple #[.pointer (some ⟨g, 0, none⟩), .pointer (some ⟨r, 0, none⟩), .agg #[.int .i64 2, .int .i64 10, .int .i64 8, .int .i64 4, .int .i64 32], .bool true]) (by simp [results, Tryz.results8, go_sem, d0, d1, d2, d3, d4]) rfl (HF.out _ rfl)
end Go.Proofs.YtakilnpfhljgfaaGreat.BK

/- block: images, Right, zero, Pad, sector, Put. No condition. -/
namespace Go.Proofs.YtakilnpfhljgfaaGreat.BK
set_option maxRecDepth 100000
open Go.RowKit Go.Proofs.YtakilnpfhljgfaaGreat.WI Go.Proofs.YtakilnpfhljgfaaGreat.SM
set_option linter.unusedVariables false
set_option linter.unusedSimpArgs false

abbrev TIm : TypeId := 41
structure Im where
  b : Int
  v : Int
  d : ByteArray
def icells (x : Im) : Array Value := #[.int .i64 x.b, .int .u64 x.v, .string x.d]
def iagg (x : Im) : Value := .agg #[.int .i64 x.b, .int .u64 x.v, .string x.d]
abbrev im0 : Im := ⟨0, 0, ⟨#[]⟩⟩
def rightB (x : Im) : Bool := decide (0 ≤ x.b) && decide (x.b < 4096) && decide (x.d.size = 96)
/-- An image that came in. -/
structure ImOk (x : Im) : Prop where
  b : -9223372036854775808 ≤ x.b ∧ x.b ≤ 9223372036854775807
  v : 0 ≤ x.v ∧ x.v ≤ 18446744073709551615
  d : x.d.size ≤ 9223372036854775807
/-- An image that may be. -/
structure Good (x : Im) : Prop where
  b : 0 ≤ x.b ∧ x.b < 4096
  v : 0 ≤ x.v ∧ x.v ≤ 18446744073709551615
  d : x.d.size = 96
theorem right_iff {x : Im} (h : ImOk x) : rightB x = true ↔ Good x := by
  unfold rightB
  simp only [Bool.and_eq_true, decide_eq_true_eq]
  exact ⟨fun ⟨⟨a, b⟩, c⟩ => ⟨⟨a, b⟩, h.v, c⟩, fun g => ⟨⟨g.b.1, g.b.2⟩, g.d⟩⟩
theorem Good.ok {x : Im} (h : Good x) : ImOk x := ⟨by have := h.b; omega, h.v, by have := h.d; omega⟩
theorem right_any (x : Im) (w : World) (hx : ImOk x) : Calls Tryz.prog 101 #[iagg x] w fun e w' => e = .returned (.bool (rightB x)) ∧ Below w.heap.size w w' := by
  obtain ⟨b, v, d⟩ := x
  have h1 := hx.b
  have h3 := hx.d
  dsimp only at h1 h3
  unfold rightB iagg
  dsimp only
  obtain ⟨s, hs⟩ : ∃ s, d.size = s := ⟨_, rfl⟩
  have hd := fun w => (Below.refl _ w).alloc (Nat.le_refl _) (.cells #[.int .i64 b, .int .u64 v, .string d] TIm)
  rw [hs] at h3 ⊢
  clear hx
  by_cases b1 : 0 ≤ b
  · by_cases b2 : b < 4096
    · have c1 : decide (0 ≤ b) = true := by simpa using b1
      have c2 : decide (b < 4096) = true := by simpa using b2
      by_cases b3 : s = 96
      · have c3 : ((s : Int) == 96) = true := by simp; omega
        have r : (decide (0 ≤ b) && decide (b < 4096) && decide (s = 96)) = true := by simp [b1, b2, b3]
        rw [r]
        clear r b3 b1 b2
        go_enter Tryz.func101, Tryz.ntmps101
        go_wp2
        go_ret
        exact ⟨ret_bool (by first | rfl | simp), hd w⟩
      · have c3 : ((s : Int) == 96) = false := by simp; omega
        have r : (decide (0 ≤ b) && decide (b < 4096) && decide (s = 96)) = false := by simp [b3]
        rw [r]
        clear r b3 b1 b2
        go_enter Tryz.func101, Tryz.ntmps101
        go_wp2
        go_ret
        exact ⟨ret_bool (by first | rfl | simp), hd w⟩
    · have c1 : decide (0 ≤ b) = true := by simpa using b1
      have c2 : decide (b < 4096) = false := by simpa using b2
      have r : (decide (0 ≤ b) && decide (b < 4096) && decide (s = 96)) = false := by simp [b2]
      rw [r]
      clear r b1 b2
      go_enter Tryz.func101, Tryz.ntmps101
      go_wp2
      go_ret
      exact ⟨ret_bool (by first | rfl | simp), hd w⟩
  · have c1 : decide (0 ≤ b) = false := by simpa using b1
    have r : (decide (0 ≤ b) && decide (b < 4096) && decide (s = 96)) = false := by simp [b1]
    rw [r]
    clear r b1
    go_enter Tryz.func101, Tryz.ntmps101
    go_wp2
    go_ret
    exact ⟨ret_bool (by first | rfl | simp), hd w⟩

def fillT (s : ByteArray) : ByteArray := s ++ zerosT (96 - s.size)
theorem fillT_size (s : ByteArray) (h : s.size ≤ 96) : (fillT s).size = 96 := by
  unfold fillT
  rw [ByteArray.size_append, zerosT_size]
  omega
/-- The numbers of one sector of an image, and the sector. -/
def numsT (x : Im) : ByteArray := strOfNums (([] ++ lowB x.b 4) ++ lowB x.v 8)
theorem numsT_size (x : Im) : (numsT x).size = 12 := by unfold numsT; rw [strOf_size]; simp [lowB_len]
def halfT (x : Im) (k : Nat) : ByteArray := x.d.extract (k * 48) ((k + 1) * 48)
def secB (x : Im) (k : Nat) : ByteArray := halfT x k ++ numsT x
def secT (x : Im) (k : Nat) : ByteArray := stampT (secB x k) 64
theorem halfT_size {x : Im} (h : x.d.size = 96) {k : Nat} (hk : k < 2) : (halfT x k).size = 48 := by unfold halfT; rw [ByteArray.size_extract]; omega
theorem secB_size {x : Im} (h : x.d.size = 96) {k : Nat} (hk : k < 2) : (secB x k).size = 60 := by unfold secB; rw [ByteArray.size_append, halfT_size h hk, numsT_size]
/-- An image's bytes. -/
def putT (x : Im) : ByteArray := secT x 0 ++ secT x 1
def putP (x : Im) : Nat → ByteArray
  | 0 => ⟨#[]⟩
  | k + 1 => putP x k ++ secT x k
theorem secT_size {x : Im} (h : x.d.size = 96) {k : Nat} (hk : k < 2) : (secT x k).size = 64 := (read_stamp (secB x k) 64 (by omega) (by rw [secB_size h hk]; omega)).1
theorem putP_size {x : Im} (h : x.d.size = 96) {k : Nat} (hk : k ≤ 2) : (putP x k).size = 64 * k := by
  induction k with
  | zero => rfl
  | succ k ih => unfold putP; rw [ByteArray.size_append, ih (by omega), secT_size h (by omega)]; omega
theorem putP_two (x : Im) : putP x 2 = putT x := by
  show ((⟨#[]⟩ : ByteArray) ++ secT x 0) ++ secT x 1 = _
  rw [show (⟨#[]⟩ : ByteArray) ++ secT x 0 = secT x 0 from ByteArray.empty_append]
  rfl
theorem putT_size {x : Im} (h : x.d.size = 96) : (putT x).size = 128 := by rw [← putP_two, putP_size h (by omega)]
end Go.Proofs.YtakilnpfhljgfaaGreat.BK

/- block: read, Get. No condition. -/
namespace Go.Proofs.YtakilnpfhljgfaaGreat.BK
set_option maxRecDepth 100000
open Go.RowKit Go.Proofs.YtakilnpfhljgfaaGreat.WI Go.Proofs.YtakilnpfhljgfaaGreat.SM
set_option linter.unusedVariables false
set_option linter.unusedSimpArgs false

/-- One sector of many; what a sector says. -/
def sect (b : ByteArray) (k : Nat) : ByteArray := b.extract (k * 64) ((k + 1) * 64)
def rdB (F : ByteArray) : Int := leL ((F.extract 48 F.size).extract 0 4).data.toList
def rdV (F : ByteArray) : Int := leL (((F.extract 48 F.size).extract 4 (F.extract 48 F.size).size).extract 0 8).data.toList
def rdD (F : ByteArray) : ByteArray := F.extract 0 48
def rdF (b : ByteArray) (k : Nat) : ByteArray := (sect b k).extract 0 60
theorem rdB_b (F : ByteArray) (h : F.size = 60) : 0 ≤ rdB F ∧ rdB F < 4294967296 := by
  unfold rdB
  obtain ⟨m, h1, h2⟩ := leL_lt ((F.extract 48 F.size).extract 0 4).data.toList
  have h3 : ((F.extract 48 F.size).extract 0 4).data.toList.length = 4 := by
    rw [Array.length_toList]; show ((F.extract 48 F.size).extract 0 4).size = 4; simp only [ByteArray.size_extract]; omega
  rw [h3, show (256 : Nat) ^ 4 = 4294967296 from rfl] at h2
  rw [h1]; omega
theorem rdF_size (b : ByteArray) (h : b.size = 128) {k : Nat} (hk : k < 2) : (rdF b k).size = 60 := by unfold rdF sect; simp only [ByteArray.size_extract]; omega
end Go.Proofs.YtakilnpfhljgfaaGreat.BK

/- block: Get. No condition. -/
namespace Go.Proofs.YtakilnpfhljgfaaGreat.BK
set_option maxRecDepth 100000
open Go.RowKit Go.Proofs.YtakilnpfhljgfaaGreat.WI Go.Proofs.YtakilnpfhljgfaaGreat.SM
set_option linter.unusedVariables false
set_option linter.unusedSimpArgs false

/-- What Get makes of a text: the image, and the number of the error. -/
def getR (n : Int) (b : ByteArray) : Im × Int :=
  if b.size = 128 then (if b = zerosT 128 then (⟨n, 0, zerosT 96⟩, 0)
    else if fitsR (sect b 0) = true then (if fitsR (sect b 1) = true then
      (if rdB (rdF b 0) = n ∧ rdB (rdF b 1) = n ∧ n < 4096 then (if rdV (rdF b 0) = rdV (rdF b 1) then (⟨n, rdV (rdF b 0), rdD (rdF b 0) ++ rdD (rdF b 1)⟩, 0) else (im0, 6)) else (im0, 4)) else (im0, 6)) else (im0, 6))
  else (im0, 5)
theorem list_ne {a b : ByteArray} (h : a ≠ b) : (a.toList == b.toList) = false := by
  refine SM.toList_ne fun e => h ?_
  cases a with | mk x => cases b with | mk y => exact congrArg ByteArray.mk (Array.ext' e)
theorem list_eq (a : ByteArray) : (a.toList == a.toList) = true := by simp
end Go.Proofs.YtakilnpfhljgfaaGreat.BK

/- block: what Get makes of what Put lays, with and without a changed byte. Plain. No condition. -/
namespace Go.Proofs.YtakilnpfhljgfaaGreat.BK
set_option maxRecDepth 100000
open Go.RowKit Go.Proofs.YtakilnpfhljgfaaGreat.WI Go.Proofs.YtakilnpfhljgfaaGreat.SM
set_option linter.unusedVariables false
set_option linter.unusedSimpArgs false

theorem ba_ext {a b : ByteArray} (h : a.data.toList = b.data.toList) : a = b := by
  obtain ⟨⟨a⟩⟩ := a
  obtain ⟨⟨b⟩⟩ := b
  simp at h
  rw [h]
theorem ext_set_far (P : ByteArray) (q : Nat) (d : UInt8) (i j : Nat) (h : j ≤ q ∨ q < i) : (setT P q d).extract i j = P.extract i j := by
  refine ba_ext ?_
  rw [SM.ext_data, SM.ext_data, setT_data]
  rcases h with h | h
  · rcases Nat.lt_or_ge i j with hij | hij
    · have e : ∀ l : List UInt8, (l.drop i).take (j - i) = (l.take j).drop i := fun l => by rw [List.drop_take]
      rw [e, e, List.take_set_of_le (by omega)]
    · rw [show j - i = 0 by omega, List.take_zero, List.take_zero]
  · rw [List.drop_set, if_pos h]
theorem ext_set_in (P : ByteArray) (q : Nat) (d : UInt8) (i j : Nat) (h1 : i ≤ q) : (setT P q d).extract i j = setT (P.extract i j) (q - i) d := by
  refine ba_ext ?_
  rw [SM.ext_data, setT_data, setT_data, SM.ext_data, List.drop_set, if_neg (by omega), List.take_set]
theorem zsec_misfit : fitsR (sect (zerosT 128) 0) = false := by decide +kernel
section
variable {x : Im}
theorem sect0 (h : x.d.size = 96) : sect (putT x) 0 = secT x 0 := by
  have h0 := secT_size h (k := 0) (by omega)
  unfold sect putT
  refine ba_ext ?_
  rw [SM.ext_data, SM.app_data, List.drop_zero, List.take_left' (by rw [Array.length_toList]; exact h0)]
theorem sect1 (h : x.d.size = 96) : sect (putT x) 1 = secT x 1 := by
  have h0 := secT_size h (k := 0) (by omega)
  have h1 := secT_size h (k := 1) (by omega)
  unfold sect putT
  refine ba_ext ?_
  rw [SM.ext_data, SM.app_data, List.drop_left' (by rw [Array.length_toList]; exact h0), List.take_of_length_le]
  rw [Array.length_toList]
  show (secT x 1).size ≤ _
  omega
theorem sect_put (h : x.d.size = 96) {k : Nat} (hk : k < 2) : sect (putT x) k = secT x k := by
  rcases (by omega : k = 0 ∨ k = 1) with rfl | rfl
  · exact sect0 h
  · exact sect1 h
theorem secT_fits (h : x.d.size = 96) {k : Nat} (hk : k < 2) : fitsR (secT x k) = true := (read_stamp (secB x k) 64 (by omega) (by rw [secB_size h hk]; omega)).2.2.1
theorem secT_front (h : x.d.size = 96) {k : Nat} (hk : k < 2) : (secT x k).extract 0 60 = secB x k := by
  have h0 := (read_stamp (secB x k) 64 (by omega) (by rw [secB_size h hk]; omega)).2.2.2
  rw [show (64 : Nat) - 4 = 60 from rfl] at h0
  rw [show secT x k = stampT (secB x k) 64 from rfl, h0]
  unfold padT
  rw [secB_size h hk]
  refine ba_ext ?_
  rw [SM.app_data]
  rw [show (zerosT (64 - 4 - 60)).data.toList = [] from by decide, List.append_nil]
theorem half_data (h : x.d.size = 96) {k : Nat} (hk : k < 2) : (secB x k).data.toList = (halfT x k).data.toList ++ (SU.U8 (lowB x.b 4) ++ (SU.U8 (lowB x.v 8) ++ [])) := by
  unfold secB
  rw [SM.app_data]
  congr 1
theorem front_rest (h : x.d.size = 96) {k : Nat} (hk : k < 2) : ((secB x k).extract 48 (secB x k).size).data.toList = SU.U8 (lowB x.b 4) ++ (SU.U8 (lowB x.v 8) ++ []) := by
  have h0 := halfT_size h hk
  have hz := secB_size h hk
  rw [SM.ext_data, half_data h hk, List.drop_left' (by rw [Array.length_toList]; exact h0), List.take_of_length_le]
  rw [List.length_append, List.length_append]
  unfold SU.U8
  rw [List.length_map, List.length_map, lowB_len, lowB_len, hz]
  exact Nat.le_refl _
theorem rd_put (g : Good x) {k : Nat} (hk : k < 2) : rdB (secB x k) = x.b ∧ rdV (secB x k) = x.v ∧ rdD (secB x k) = halfT x k := by
  have hb := g.b
  have hv := g.v
  obtain ⟨a1, a2, a3⟩ := SU.rd_step (front_rest g.d hk) (by omega) (by rw [show (256 : Nat) ^ 4 = 4294967296 from rfl]; omega)
  obtain ⟨b1, b2, b3⟩ := SU.rd_step a2 (by omega) (by rw [show (256 : Nat) ^ 8 = 18446744073709551616 from rfl]; omega)
  refine ⟨a1, b1, ?_⟩
  unfold rdD
  refine ba_ext ?_
  have h0 := halfT_size g.d hk
  rw [SM.ext_data, half_data g.d hk, List.drop_zero, List.take_left' (by rw [Array.length_toList]; exact h0)]
theorem halves (h : x.d.size = 96) : halfT x 0 ++ halfT x 1 = x.d := by
  unfold halfT
  refine ba_ext ?_
  rw [SM.app_data, SM.ext_data, SM.ext_data]
  rw [show 0 * 48 = 0 from rfl, show (0 + 1) * 48 = 48 from rfl, show (1 + 1) * 48 = 96 from rfl, List.drop_zero]
  rw [show 48 - 0 = 48 from rfl]
  have hl : x.d.data.toList.length = 96 := (Array.length_toList).trans h
  rw [show (x.d.data.toList.drop 48).take 48 = x.d.data.toList.drop 48 from List.take_of_length_le (by rw [List.length_drop]; omega), List.take_append_drop]
theorem rdF_put (h : x.d.size = 96) {k : Nat} (hk : k < 2) : rdF (putT x) k = secB x k := by unfold rdF; rw [sect_put h hk, secT_front h hk]
theorem put_nz (h : x.d.size = 96) : putT x ≠ zerosT 128 := fun e => by
  have h1 := secT_fits h (k := 0) (by omega)
  rw [← sect0 h, e, zsec_misfit] at h1
  cases h1
/-- Of its own number it is read as it was put. -/
theorem get_put (g : Good x) : getR x.b (putT x) = (x, 0) := by
  unfold getR
  have h0 := rd_put g (k := 0) (by omega)
  have h1 := rd_put g (k := 1) (by omega)
  rw [if_pos (putT_size g.d), if_neg (put_nz g.d), sect0 g.d, sect1 g.d, if_pos (secT_fits g.d (by omega)), if_pos (secT_fits g.d (by omega)), rdF_put g.d (by omega), rdF_put g.d (by omega), h0.1, h1.1, h0.2.1, h1.2.1, h0.2.2, h1.2.2, halves g.d,
    if_pos ⟨rfl, rfl, g.b.2⟩, if_pos rfl]
/-- Of another number it is none. -/
theorem get_other (g : Good x) (n : Int) (hn : n ≠ x.b) : getR n (putT x) = (im0, 4) := by
  unfold getR
  have h0 := rd_put g (k := 0) (by omega)
  have h1 := rd_put g (k := 1) (by omega)
  rw [if_pos (putT_size g.d), if_neg (put_nz g.d), sect0 g.d, sect1 g.d, if_pos (secT_fits g.d (by omega)), if_pos (secT_fits g.d (by omega)), rdF_put g.d (by omega), rdF_put g.d (by omega), h0.1, h1.1,
    if_neg (fun h => hn h.1.symm)]
/-- With one byte changed it is none. -/
theorem get_changed (g : Good x) (q : Nat) (hq : q < 128) (d : UInt8) (hd : (putT x).data.toList[q]? ≠ some d) (n : Int) : getR n (setT (putT x) q d) = (im0, 6) := by
  have hsz : (setT (putT x) q d).size = 128 := by rw [setT_size, putT_size g.d]
  have key : ∀ k, k < 2 → 64 * k ≤ q → q < 64 * (k + 1) → fitsR (sect (setT (putT x) q d) k) = false := fun k hk h1 h2 => by
    have hat : (putT x).data.toList[q]? = (secT x k).data.toList[q - k * 64]? := by
      rw [← sect_put g.d hk]
      unfold sect
      rw [SM.ext_data, List.getElem?_take, if_pos (by omega), List.getElem?_drop, show k * 64 + (q - k * 64) = q by omega]
    rw [hat] at hd
    unfold sect
    rw [ext_set_in _ _ _ _ _ (by omega), show (putT x).extract (k * 64) ((k + 1) * 64) = secT x k from sect_put g.d hk]
    exact fitsR_set _ 64 (by omega) (by rw [secB_size g.d hk]; omega) (q - k * 64) (by omega) d hd
  unfold getR
  rw [if_pos hsz]
  rcases Nat.lt_or_ge q 64 with h | h
  · have h0 := key 0 (by omega) (by omega) (by omega)
    split
    · rename_i hz
      exfalso
      have h1 : sect (setT (putT x) q d) 1 = secT x 1 := by
        unfold sect
        rw [ext_set_far _ _ _ _ _ (Or.inr (by omega))]
        exact sect1 g.d
      have h2 := secT_fits g.d (k := 1) (by omega)
      rw [← h1, hz, show fitsR (sect (zerosT 128) 1) = false from by decide +kernel] at h2
      cases h2
    · rw [h0]; rfl
  · have h1 : sect (setT (putT x) q d) 0 = secT x 0 := by
      unfold sect
      rw [ext_set_far _ _ _ _ _ (Or.inl (by omega))]
      exact sect0 g.d
    have h2 := secT_fits g.d (k := 0) (by omega)
    rw [if_neg (fun hz => by rw [← h1, hz, zsec_misfit] at h2; cases h2), h1, if_pos h2, key 1 (by omega) (by omega) (by omega)]
    rfl
/-- Nobody wrote it: bytes 0. -/
theorem get_zeros (n : Int) : getR n (zerosT 128) = (⟨n, 0, zerosT 96⟩, 0) := by
  unfold getR
  rw [if_pos (zerosT_size _), if_pos rfl]
end
end Go.Proofs.YtakilnpfhljgfaaGreat.BK

/- block: Load, Store, of the laws' shape. No condition. -/
namespace Go.Proofs.YtakilnpfhljgfaaGreat.BK
set_option maxRecDepth 100000
open Go.RowKit Go.Proofs.YtakilnpfhljgfaaGreat.MI Go.Proofs.YtakilnpfhljgfaaGreat.WI Go.Proofs.YtakilnpfhljgfaaGreat.SM Go.Proofs.YtakilnpfhljgfaaGreat.DK Go.Proofs.YtakilnpfhljgfaaGreat.SU
set_option linter.unusedVariables false
set_option linter.unusedSimpArgs false

theorem blockI0 (n : Int) : blockI sh0 n = 17 + 2 * n := by show 1 + 2 * 8 + 2 * n = _; omega
section
variable {w0 W : World} {g N : Nat} {D : Dk}
end
/-- A disk, and blocks beside it that its calls leave. -/
def OwnL (w0 : World) (g N : Nat) (D : Dk) (bl : List (Nat × TypeId × Array Value)) (W : World) : Prop :=
  ∃ p, DiskAt W w0.heap.size g p N D ∧ Below w0.heap.size w0 W ∧ ∀ b ∈ bl, Blk W b.1 b.2.1 b.2.2 ∧ ¬ fp g p b.1
section
variable {w0 W W' : World} {g N N' : Nat} {D D' : Dk} {bl : List (Nat × TypeId × Array Value)}
theorem OwnL.own (h : OwnL w0 g N D bl W) : Own w0 g N D W := by obtain ⟨p, h1, h2, _⟩ := h; exact ⟨p, h1, h2⟩
theorem OwnL.bel (h : OwnL w0 g N D bl W) : Below w0.heap.size w0 W := h.own.bel
theorem OwnL.blk (h : OwnL w0 g N D bl W) {b : Nat × TypeId × Array Value} (hb : b ∈ bl) : Blk W b.1 b.2.1 b.2.2 := by obtain ⟨p, _, _, h3⟩ := h; exact (h3 b hb).1
theorem OwnL.b0 {x : Nat} {T : TypeId} {cs : Array Value} (h : OwnL w0 g N D ((x, T, cs) :: bl) W) : Blk W x T cs := h.blk (b := (x, T, cs)) (List.mem_cons_self ..)
theorem OwnL.b1 {x : Nat} {T : TypeId} {cs : Array Value} {y : Nat × TypeId × Array Value} (h : OwnL w0 g N D (y :: (x, T, cs) :: bl) W) : Blk W x T cs := h.blk (b := (x, T, cs)) (List.mem_cons_of_mem _ (List.mem_cons_self ..))
theorem OwnL.b2 {x : Nat} {T : TypeId} {cs : Array Value} {y z : Nat × TypeId × Array Value} (h : OwnL w0 g N D (y :: z :: (x, T, cs) :: bl) W) : Blk W x T cs := h.blk (b := (x, T, cs)) (List.mem_cons_of_mem _ (List.mem_cons_of_mem _ (List.mem_cons_self ..)))
theorem Own.toL (h : Own w0 g N D W) : OwnL w0 g N D [] W := by obtain ⟨p, h1, h2⟩ := h; exact ⟨p, h1, h2, fun _ hb => by cases hb⟩
theorem OwnL.then_ (h : OwnL w0 g N D bl W) (hb : Below W.heap.size W W') : OwnL w0 g N D bl W' := by
  obtain ⟨p, h1, h2, h3⟩ := h
  exact ⟨p, h1.old hb, belowThen h2 hb, fun b hbl => ⟨(h3 b hbl).1.below hb (h3 b hbl).1.lt, (h3 b hbl).2⟩⟩
theorem OwnL.beside (h : OwnL w0 g N D bl W) (T : TypeId) (cs : Array Value) : OwnL w0 g N D ((W.heap.size, T, cs) :: bl) (W.alloc (.cells cs T)) := by
  have h0 := h.then_ (belowNew (belowSame W) (.cells cs T))
  obtain ⟨p, h1, h2, h3⟩ := h
  refine ⟨p, h1.alloc _, belowNew h2 _, fun b hbl => ?_⟩
  rcases List.mem_cons.1 hbl with e | hbl
  · rw [e]; exact ⟨Blk.new _ _ _, fun hk => by have h5 := h1.lt _ hk; omega⟩
  · exact ⟨(h3 b hbl).1.alloc _, (h3 b hbl).2⟩
theorem OwnL.of {p : Pl} (h1 : DiskAt W w0.heap.size g p N D) (h2 : Below w0.heap.size w0 W) (h3 : ∀ b ∈ bl, Blk W b.1 b.2.1 b.2.2 ∧ ¬ fp g p b.1) (ho : DiskOut W w0.heap.size g p N' D' W') : OwnL w0 g N' D' bl W' := by
  obtain ⟨p', k1, k2, k3, _⟩ := ho
  refine ⟨p', k1, k2.after h2 h1.ge h1.base, fun b hbl => ⟨(h3 b hbl).1.keeps k2 (h3 b hbl).2, fun hk => ?_⟩⟩
  rcases k3 b.1 hk with h5 | h5
  · exact (h3 b hbl).2 h5
  · have := (h3 b hbl).1.lt; omega
/-- A cell of the first block beside it is turned. -/
theorem OwnL.turn {x : Nat} {T : TypeId} {cs : Array Value} (h : OwnL w0 g N D ((x, T, cs) :: bl) W) (h0 : D.stays = []) (hx : w0.heap.size ≤ x) (hne : ∀ b ∈ bl, b.1 ≠ x) (i : Nat) (u : Value) : OwnL w0 g N D ((x, T, cs.setIfInBounds i u) :: bl) (W.setCell ⟨x, i, none⟩ u) := by
  have hb := h.b0
  obtain ⟨p, h1, h2, h3⟩ := h
  have hx2 := (h3 _ (List.mem_cons_self ..)).2
  have hk := keep1 W x i u
  refine ⟨p, disk_keeps h1 h0 hk (fun k hk1 hk2 => ?_), h2.setCell hx _, fun b hbl => ?_⟩
  · have e : k = x := hk2
    exact hx2 (e ▸ hk1)
  · rcases List.mem_cons.1 hbl with e | hbl
    · rw [e]; exact ⟨hb.set_ i u, hx2⟩
    · exact ⟨(h3 b (List.mem_cons_of_mem _ hbl)).1.keeps hk (fun e => hne b hbl e), (h3 b (List.mem_cons_of_mem _ hbl)).2⟩
theorem barrier_l (h : OwnL w0 g N D bl W) (n e : Int) (hN : N ≤ 10000000) (D' : Dk) (he : barrierE D n e = 0) (hk : barrierK D n e = D') : Calls Tryz.prog 48 #[.pointer (some ⟨g, 0, none⟩), .int .i64 n, .int .u64 e] W fun z w' => z = .returned (.int .i64 0) ∧ OwnL w0 g N D' bl w' := by
  obtain ⟨p, h1, h2, h3⟩ := h
  refine (barrier_any h1 n e (by omega)).mono fun z w' ⟨hz, ho⟩ => ?_
  rw [he] at hz
  rw [hk] at ho
  exact ⟨hz, OwnL.of h1 h2 h3 ho⟩
end
end Go.Proofs.YtakilnpfhljgfaaGreat.BK

/- commonslaw10.alive. No condition. -/
namespace Go.Proofs.YtakilnpfhljgfaaGreat.BK
set_option maxRecDepth 100000
open Go.RowKit Go.Proofs.YtakilnpfhljgfaaGreat.MI Go.Proofs.YtakilnpfhljgfaaGreat.WI Go.Proofs.YtakilnpfhljgfaaGreat.SM Go.Proofs.YtakilnpfhljgfaaGreat.DK Go.Proofs.YtakilnpfhljgfaaGreat.SU
set_option linter.unusedVariables false
set_option linter.unusedSimpArgs false

section
variable {D : Dk} {b n : Int} {T : ByteArray}
theorem wr_ok (h1 : D.on = true) (h2 : D.armed = false) (h3 : D.room = 37) (h4 : D.table 1 = 9) (hb : 0 ≤ b ∧ b < 10) (hT : T.size = 128) : writeE D 1 9 (17 + 2 * b) T = 0 ∧ writeK D 1 9 (17 + 2 * b) T = manyK D 1 (17 + 2 * b) T 2 :=
  write_good (c := 2) h1 rfl h2 h4 (by decide) hT (by decide) ⟨by omega, by rw [h3]; omega⟩
theorem rd_ok (h1 : D.on = true) (h3 : D.room = 37) (hn : 0 ≤ n ∧ n < 10) : readE D (17 + 2 * n) 2 = 0 ∧ readT D (17 + 2 * n) 2 = ⟨(readS D (17 + 2 * n) 2).toArray⟩ :=
  DK.read_good (k := 2) h1 (by decide) ⟨by omega, by rw [h3]; omega⟩
theorem zeros_two : (⟨((([] : List UInt8) ++ zsec.data.toList) ++ zsec.data.toList).toArray⟩ : ByteArray) = zerosT 128 := by
  unfold zerosT zsec
  rw [repeat_rep]
  rfl
theorem rd_zero (h1 : D.on = true) (h3 : D.room = 37) (hn : 0 ≤ n ∧ n < 10) (hc : Calm D) : readT D (17 + 2 * n) 2 = zerosT 128 := by
  rw [(rd_ok h1 h3 hn).2]
  show (⟨((([] : List UInt8) ++ ((D.now (17 + 2 * n + ((0 : Nat) : Int))).getD zsec).data.toList) ++ ((D.now (17 + 2 * n + ((1 : Nat) : Int))).getD zsec).data.toList).toArray⟩ : ByteArray) = _
  rw [hc.now _ (by omega), hc.now _ (by omega)]
  exact zeros_two
theorem many_keep (D : Dk) (a : Int) (T : ByteArray) : (manyK D 1 a T 2).on = D.on ∧ (manyK D 1 a T 2).armed = D.armed ∧ (manyK D 1 a T 2).room = D.room ∧ (manyK D 1 a T 2).table = D.table ∧ (manyK D 1 a T 2).stays = D.stays := ⟨rfl, rfl, rfl, rfl, rfl⟩
theorem rd_many (h1 : D.on = true) (h3 : D.room = 37) (hb : 0 ≤ b ∧ b < 10) (hT : T.size = 128) : readT (manyK D 1 (17 + 2 * b) T 2) (17 + 2 * b) 2 = T := by
  rw [(rd_ok (D := manyK D 1 (17 + 2 * b) T 2) h1 h3 hb).2, read_many _ _ _ _ _ hT, arr_list]
theorem rd_other (h1 : D.on = true) (h3 : D.room = 37) (hb : 0 ≤ b ∧ b < 10) (hn : 0 ≤ n ∧ n < 10) (hne : n ≠ b) : readT (manyK D 1 (17 + 2 * b) T 2) (17 + 2 * n) 2 = readT D (17 + 2 * n) 2 := by
  rw [(rd_ok (D := manyK D 1 (17 + 2 * b) T 2) h1 h3 hn).2, (rd_ok h1 h3 hn).2, read_far _ _ _ _ _ _ _ (by omega)]
end
def Quiet (w : World) (e : Ending) (w' : World) : Prop := e = .returned (.bool true) ∧ Below w.heap.size w w'
def abc : ByteArray := ⟨#[97, 98, 99]⟩
def im7 : Im := ⟨3, 7, fillT abc⟩
theorem good7 : Good im7 := ⟨by decide, by decide, fillT_size _ (by decide)⟩
end Go.Proofs.YtakilnpfhljgfaaGreat.BK
