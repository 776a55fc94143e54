/- The disk: Cut. No condition. -/
import Derived.Test.YtacogpogplionaaDk4
namespace Go.Proofs.Ytacogpogplionaa.DK
set_option maxRecDepth 100000
open Go.RowKit Go.Proofs.Ytacogpogplionaa.MI
set_option linter.unusedVariables false
set_option linter.unusedSimpArgs false

structure CutRel (w : World) (lb n0 : Nat) (L : Int → Option Wr) (ws : List Wr) (keep : List Int) (k : Nat) (wr : World) : Prop where
  map : ∃ q, q ≤ n0 + k ∧ MapAt wcode Try.prog TI wr lb q (cutL L ws keep k)
  kp : Keeps (only lb) w wr
theorem cutL_hit {L : Int → Option Wr} {ws : List Wr} {keep : List Int} {k : Nat} {x : Wr} (hx : ws[k]? = some x) (h : staysB keep k = true) : cutL L ws keep (k + 1) = keepL (cutL L ws keep k) x := by
  have e : ws.getD k wr0 = x := by rw [List.getD_eq_getElem?_getD, hx]; rfl
  show (if staysB keep k = true then keepL (cutL L ws keep k) (ws.getD k wr0) else _) = _
  rw [e, if_pos h]
theorem cutL_miss {L : Int → Option Wr} {ws : List Wr} {keep : List Int} {k : Nat} (h : staysB keep k = false) : cutL L ws keep (k + 1) = cutL L ws keep k := by
  show (if staysB keep k = true then _ else _) = _
  rw [h]; rfl
section
variable {w wr w2 : World} {lb n0 : Nat} {L : Int → Option Wr} {ws : List Wr} {keep : List Int} {k : Nat} {x : Wr}
theorem CutRel.hit {q : Nat} (h : CutRel w lb n0 L ws keep k wr) (hx : ws[k]? = some x) (hs : staysB keep k = true) (hq : q ≤ n0 + k) {wb : World} (hb : Below wr.heap.size wr wb) (hk : KeepOut wb lb (q + 1) (keepL (cutL L ws keep k) x) w2) : CutRel w lb n0 L ws keep (k + 1) w2 :=
  ⟨⟨q + 1, by omega, by rw [cutL_hit hx hs]; exact hk.1⟩, (h.kp.trans (Keeps.of_below hb (fun _ => False)) (fun _ _ h => h.elim)).trans hk.2 (fun _ _ h => h)⟩
theorem CutRel.miss (h : CutRel w lb n0 L ws keep k wr) (hs : staysB keep k = false) (hb : Below wr.heap.size wr w2) : CutRel w lb n0 L ws keep (k + 1) w2 := by
  obtain ⟨q, h1, h2⟩ := h.map
  exact ⟨⟨q, by omega, by rw [cutL_miss hs]; exact h2.keeps (Keeps.of_below hb (fun _ => False)) id⟩, h.kp.trans (Keeps.of_below hb (fun _ => False)) (fun _ _ h => h.elim)⟩
end
/-- What the rounds of the range over what lasts have. -/
structure Cut2 (w : World) (lb nb r q : Nat) (L : Int → Option Wr) (left : Int → Bool) (cnt : Nat) (wv : World) : Prop where
  rg : RangeAt wcode Try.prog TI wv lb r q L left cnt
  mp : ∃ j F, j + cnt ≤ q ∧ MapAt scode Try.prog TI wv nb j F ∧ ∀ x, WfI x → F x = if left x = true then none else dataOf L x
  kp : Keeps (fun k => k = r ∨ k = nb) w wv
  ne : lb ≠ nb ∧ r ≠ nb
theorem Cut2.step {w wv w4 w5 : World} {lb nb r q cnt cnt' j : Nat} {L : Int → Option Wr} {left : Int → Bool} {F : Int → Option ByteArray} {x : Int} {c : Wr} (h : Cut2 w lb nb r q L left cnt wv) (hx : WfI x) (hl : left x = true) (hL : L x = some c)
    (h4 : RangeAt wcode Try.prog TI w4 lb r q L (fun z => left z && !(z == x)) cnt') (hc : cnt' < cnt) (hg4 : wv.grownBy w4 (some r)) (o : Obj)
    (hj : j + cnt ≤ q) (hF : ∀ x, WfI x → F x = if left x = true then none else dataOf L x)
    (h5 : MapAt scode Try.prog TI w5 nb (j + 1) (putF F x c.d)) (hg5 : (w4.alloc o).drew.grownBy w5 (some nb)) : Cut2 w lb nb r q L (fun z => left z && !(z == x)) cnt' w5 := by
  have ha : w4.grownBy (w4.alloc o).drew (some nb) := ⟨rfl, rfl, rfl, by simp [World.drew], fun i hi _ => (Below.heap_alloc w4 o i hi)⟩
  refine ⟨(h4.kept ha (fun e => h.ne.1 (by injection e)) (fun e => h.ne.2 (by injection e))).kept hg5 (fun e => h.ne.1 (by injection e)) (fun e => h.ne.2 (by injection e)), ⟨j + 1, _, by omega, h5, fun z hz => ?_⟩,
    (((h.kp.grown hg4 (fun k e _ => .inl (by injection e with e; exact e.symm))).alloc o).drew).grown hg5 (fun k e _ => .inr (by injection e with e; exact e.symm)), h.ne⟩
  by_cases hzx : z = x
  · subst hzx
    rw [putF_same]
    simp [dataOf, hL]
  · rw [putF_other _ _ hzx, hF z hz]
    simp [hzx]
theorem Cut2.mpG {w wv w4 : World} {lb nb r q cnt : Nat} {L : Int → Option Wr} {left : Int → Bool} (h : Cut2 w lb nb r q L left cnt wv) (hg4 : wv.grownBy w4 (some r)) :
    ∃ j F, j + cnt ≤ q ∧ MapAt scode Try.prog TI w4 nb j F ∧ ∀ x, WfI x → F x = if left x = true then none else dataOf L x := by
  obtain ⟨j, F, h1, h2, h3⟩ := h.mp
  exact ⟨j, F, h1, h2.keeps (S := only r) ((Keeps.refl _ wv).grown hg4 (fun k e _ => by injection e with e; exact e.symm)) (fun e => h.ne.2 e.symm), h3⟩
section
variable {w w' : World} {B g N : Nat} {p : Pl} {D : Dk}
theorem DiskOut.comp {w1 : World} {p1 : Pl} {N2 : Nat} {D2 : Dk} (k : Keeps (fp g p) w w1) (h2 : Grows w (fp g p) (fp g p1)) (h3 : Grows w (sp p) (sp p1)) (ho : DiskOut w1 B g p1 N2 D2 w') : DiskOut w B g p N2 D2 w' := by
  obtain ⟨p2, e1, e2, e3, e4⟩ := ho
  exact ⟨p2, e1, k.then_ h2 e2, h2.trans k.size e3, h3.trans k.size e4⟩
/-- The world ahead of the range. -/
def midW (wr : World) (g : Nat) : World := ((wr.alloc (.map #[] 0)).setCell ⟨g, 1, none⟩ (.bool false)).setCell ⟨g, 3, none⟩ (.map (some wr.heap.size))
theorem mid_at {wr : World} {n0 : Nat} {L : Int → Option Wr} (h : DiskAt w B g p N D) (hk : Keeps (only p.lb) w wr) (hm : MapAt wcode Try.prog TI wr p.lb n0 L) :
    (∀ o, (wr.alloc o).frozen? ⟨g, 1, none⟩ = false ∧ (wr.alloc o).frozen? ⟨g, 3, none⟩ = false ∧ (wr.alloc o).cell? ⟨g, 1, none⟩ = some (.bool D.on) ∧ (wr.alloc o).cell? ⟨g, 3, none⟩ = some (.map (some p.nb)) ∧ (wr.alloc o).cell? ⟨g, 4, none⟩ = some (.map (some p.lb))) ∧
      MapAt wcode Try.prog TI (midW wr g) p.lb n0 L ∧ MapAt scode Try.prog TI (midW wr g) wr.heap.size 0 (fun _ => none) ∧ Keeps (fun k => k = g ∨ k = p.lb) w (midW wr g) ∧ p.lb ≠ wr.heap.size ∧
      Blk (midW wr g) g TD (((dcells D p.nb p.lb (.slice p.wa D.waits.length p.wc) (.slice p.sa p.sn p.sc)).setIfInBounds 1 (.bool false)).setIfInBounds 3 (.map (some wr.heap.size))) := by
  have hb := h.blk.keeps hk (fun e => h.neGL e.symm)
  have hbo : ∀ o, Blk (wr.alloc o) g TD _ := fun o => hb.alloc o
  have hs := hk.size
  have hlt := h.lt
  have hgl := hlt g (.inl rfl)
  have hll := hlt p.lb (.inr (.inr (.inl rfl)))
  refine ⟨fun o => ⟨(hbo o).frozen 1, (hbo o).frozen 3, (hbo o).cell 1, (hbo o).cell 3, (hbo o).cell 4⟩, ((hm.alloc _).setCell h.neGL _).setCell h.neGL _, ?_, ?_, by omega, ((hbo _).set_ 1 _).set_ 3 _⟩
  · exact ((MapAt.made wr).setCell (by show wr.heap.size ≠ g; omega) _).setCell (by show wr.heap.size ≠ g; omega) _
  · exact (((hk.mono (S' := fun k => k = g ∨ k = p.lb) (fun k _ e => .inr e)).alloc _).setCell (p := ⟨g, 1, none⟩) (fun _ => .inl rfl) _).setCell (p := ⟨g, 3, none⟩) (fun _ => .inl rfl) _
theorem cut_end {wr w3 wv : World} {keep : List Int} {q : Nat} {left : Int → Bool} {cnt : Nat} (h : DiskAt w B g p N D) (hon : D.on = true) (hoff : D.armed = false ∧ D.left = -1 ∧ D.stays = []) (hk : Keeps (only p.lb) w wr)
    (hq : q ≤ N) (hm : MapAt wcode Try.prog TI wr p.lb q (cutL D.lasts D.waits keep D.waits.length)) (hg3 : (midW wr g).grownBy w3 none) (hs3 : w3.heap.size = (midW wr g).heap.size + 1)
    (h2 : Cut2 w3 p.lb wr.heap.size (midW wr g).heap.size q (cutL D.lasts D.waits keep D.waits.length) left cnt wv) (hl : ∀ x, WfI x → left x = false) :
    wv.frozen? ⟨g, 5, none⟩ = false ∧ wv.cell? ⟨g, 5, none⟩ = some (.slice p.wa D.waits.length p.wc) ∧ DiskOut w B g p N (cutK D keep) (wv.setCell ⟨g, 5, none⟩ (.slice none 0 0)) := by
  obtain ⟨-, m1, m2, m3, m4, m5⟩ := mid_at h hk hm
  have hsz := hk.size
  have hms : (midW wr g).heap.size = wr.heap.size + 1 := by simp [midW, World.setCell]
  have hgl := h.lt g (.inl rfl)
  have hb3 := m5.grown hg3 (by simp)
  have hb4 := hb3.keeps h2.kp (by rintro (e | e) <;> omega)
  have hb5 := hb4.set_ 5 (.slice none 0 0)
  have hc : cutK D keep = { D with on := false, lasts := cutL D.lasts D.waits keep D.waits.length, now := dataOf (cutL D.lasts D.waits keep D.waits.length), waits := [] } := by
    unfold cutK
    rw [if_pos hon]
    rw [← hoff.1, ← hoff.2.1, ← hoff.2.2]
  -- all that has turned
  have kA : Keeps (fun k => k = g ∨ k = p.lb) w wv := (m3.grown hg3 (fun k e _ => by cases e)).trans h2.kp (fun i hi e => by rcases e with e | e <;> omega)
  have kB : Keeps (fun k => k = g ∨ k = p.lb) w (wv.setCell ⟨g, 5, none⟩ (.slice none 0 0)) := kA.setCell (p := ⟨g, 5, none⟩) (fun _ => .inl rfl) _
  have hb0 := h.base
  refine ⟨hb4.frozen 5, hb4.cell 5, { p with nb := wr.heap.size, wa := none, wc := 0 }, ?_, kB.mono (fun k _ e => by rcases e with e | e; exact .inl e; exact .inr (.inr (.inl e))), fun k hk => ?_, fun k hk => .inl hk⟩
  · rw [hc]
    obtain ⟨j, F, f1, f2, f3⟩ := h2.mp
    refine ⟨hb5, ⟨j, by omega, ?_⟩, ⟨q, by simpa using hq, h2.rg.owns.setCell h.neGL _⟩, World.ownsRow_nil _ _ _ _, h.stays.keeps (by decide) kB (fun ad e hs => hs.elim (fun e' => h.far _ ⟨ad, e, rfl⟩ (.inl e')) (fun e' => h.far _ ⟨ad, e, rfl⟩ (.inr (.inr (.inl e'))))), h.sn, fun k hk1 hk2 => ?_, fun k hk => ⟨(h.spl k hk).1, Nat.lt_of_lt_of_le (h.spl k hk).2 kB.size⟩, h.geg, ?_, h.gel, fun e => m4 e.symm, h.seq, ?_⟩
    · exact (f2.ext (fun x hx => by rw [f3 x hx, hl x hx]; rfl)).setCell (by show wr.heap.size ≠ g; omega) _
    · rcases hk2 with e | e | e | e
      · exact h.far k hk1 (.inl e)
      · have h1 := (h.spl k hk1).2
        have e' : k = wr.heap.size := e
        omega
      · exact h.far k hk1 (.inr (.inr (.inl e)))
      · simp [Value.ownBlock] at e
    · show B ≤ wr.heap.size; omega
    · have := h.sane.cut keep
      rw [hc] at this
      exact this
  · rcases hk with e | e | e | e
    · exact .inl (.inl e)
    · have e' : k = wr.heap.size := e
      exact .inr (by omega)
    · exact .inl (.inr (.inr (.inl e)))
    · simp [Value.ownBlock] at e
end
end Go.Proofs.Ytacogpogplionaa.DK
