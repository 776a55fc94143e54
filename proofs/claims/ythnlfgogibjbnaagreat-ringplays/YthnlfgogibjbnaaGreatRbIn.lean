/- RingPlays: what the law is told of a row of Ops that came in. No condition. -/
import Derived.Test.YthnlfgogibjbnaaGreatRb12
import Derived.Test.YthnlfgogibjbnaaGreatOpen
import Derived.Deep.Strs
namespace Go.Proofs.YthnlfgogibjbnaaGreat.RB
set_option maxRecDepth 100000
set_option maxRecDepth 100000
open Go.RowKit Go.Proofs.YthnlfgogibjbnaaGreat.Bk Go.WideShapes Go.ChangeShapes Go.Deep
set_option linter.unusedVariables false
set_option linter.unusedSimpArgs false

def Wf (x : Int) : Prop := (Lit.int .i64 x).wf = true
def IntsAt (w : World) (A : Option Addr) (n c : Nat) (xs : List Int) : Prop :=
  n ≤ c ∧ c ≤ maxLen ∧ xs.length = n ∧ (0 < n → ∃ b off, A = some ⟨b, off, none⟩ ∧ b < w.heap.size ∧ ∀ i x, xs[i]? = some x → w.cell? ⟨b, off + i, none⟩ = some (.int .i64 x))
theorem IntsAt.lies {w : World} {A : Option Addr} {n c : Nat} {xs : List Int} (h : IntsAt w A n c xs) : Lies w 1 A n (xs.map val) := by
  obtain ⟨h1, h2, h3, h5⟩ := h
  refine ⟨by simp [h3], fun h0 => ?_⟩
  obtain ⟨b, off, e, hb, hc⟩ := h5 h0
  refine ⟨_, e, fun j u hu => ?_⟩
  rw [List.getElem?_map] at hu
  cases hx : xs[j]? with
  | none => rw [hx] at hu; cases hu
  | some x =>
    rw [hx] at hu
    injection hu with hu
    subst hu
    rw [Go.WideShapes.add_plain]
    exact hc j x hx
theorem list_any {α : Type} (d : α) {Q : Nat → α → Prop} (n : Nat) (each : ∀ i, i < n → ∃ z, Q i z) : ∃ zs : List α, zs.length = n ∧ ∀ i z, zs[i]? = some z → Q i z := by
  induction n with
  | zero => exact ⟨[], rfl, fun i z h => by simp at h⟩
  | succ n ih =>
    obtain ⟨zs, hz, hq⟩ := ih (fun i hi => each i (by omega))
    obtain ⟨z, hz1⟩ := each n (by omega)
    refine ⟨zs ++ [z], by simp [hz], fun i y hy => ?_⟩
    by_cases hil : i < n
    · rw [List.getElem?_append_left (by omega)] at hy; exact hq i y hy
    · rw [List.getElem?_append_right (by omega)] at hy
      have hi : i - zs.length = 0 := by
        rcases Nat.eq_zero_or_pos (i - zs.length) with h | h
        · exact h
        · rw [List.getElem?_eq_none (by simp; omega)] at hy; cases hy
      rw [hi] at hy
      obtain rfl : i = n := by omega
      simp at hy
      subst hy
      exact hz1
section
variable {H : Type} {enc : TypeId × Value → H} {w : World}
theorem ci : Tryz.prog.cellsOf 3 = 1 := by kernel_rfl
/-- A row of integers that came in, wherever it was read. -/
theorem row_in {fuel : Nat} {v : Value} {x : DataW H × List MemPlace} (hf : DataW.trod enc Tryz.prog w 0 (fun _ => true) true fuel 27 [v] = some x) :
    ∃ A n c xs, v = .slice A n c ∧ IntsAt w A n c xs := by
  rcases open_slice Tryz.underlying27 hf with ⟨hcs, _⟩ | ⟨a, len, cap, m, nn, D, Pl, hcs, _, hl, hm, hmm, _, hi⟩
  · simp at hcs
    exact ⟨none, 0, 0, [], hcs, by omega, by unfold maxLen; omega, rfl, fun h => by omega⟩
  · simp at hcs
    have each : ∀ i, i < len → ∃ z : Int, w.cell? (a.add i) = some (.int .i64 z) := by
      intro i hil
      obtain ⟨cs', h1, h2⟩ := hi i (by rw [hmm]; simp; omega)
      rw [ci] at h1
      obtain ⟨_, hcl, hat⟩ := World.cells?_some h1
      have hlen : cs'.length = 1 := by first | exact hcl | omega
      match cs', hlen with
      | [v0], _ =>
        obtain ⟨z0, e0, _, w0⟩ := DataW.trod_int Tryz.underlying3 h2
        simp at e0
        subst e0
        have h6 := hat 0 (by omega)
        rw [add_add_] at h6
        simp at h6
        exact ⟨z0, h6⟩
    obtain ⟨xs, hxl, hxs⟩ := list_any (0 : Int) len each
    refine ⟨_, _, _, xs, hcs, hl, hm, hxl, fun h0 => ?_⟩
    obtain ⟨o, ho⟩ : ∃ o, xs[0]? = some o := ⟨_, List.getElem?_eq_getElem (by omega)⟩
    have h00 := hxs 0 o ho
    obtain ⟨b, off, rfl, _⟩ := ints_at (a := a) (k := .i64) (zs := [o]) (w := w) (fun i hi => by
      obtain rfl : i = 0 := by simpa using hi
      exact h00) (by simp)
    refine ⟨b, off, rfl, World.block_lt_of_cell? w _ h00, fun i o ho => ?_⟩
    rw [← Go.WideShapes.add_plain]
    exact hxs i o ho
structure OpN where
  kind : Int
  a : Int
  b : Int
  pa : Option Addr
  pn : Nat
  pc : Nat
  ps : List Int
abbrev op0 : OpN := ⟨0, 0, 0, none, 0, 0, []⟩
def oval (o : OpN) : List Value := [.int .i64 o.kind, .int .i64 o.a, .int .i64 o.b, .slice o.pa o.pn o.pc]
structure OpOk (w : World) (o : OpN) : Prop where
  kind : Wf o.kind
  a : Wf o.a
  b : Wf o.b
  p : IntsAt w o.pa o.pn o.pc o.ps
def OpsIs (w : World) (a : Option Addr) (len cap : Nat) (xs : List OpN) : Prop :=
  len ≤ cap ∧ cap ≤ maxLen ∧ xs.length = len ∧ (∀ o ∈ xs, OpOk w o) ∧
  (0 < len → ∃ b off, a = some ⟨b, off, none⟩ ∧ b < w.heap.size ∧ ∀ i o, xs[i]? = some o → ∀ j u, (oval o)[j]? = some u → w.cell? ⟨b, off + (i * 4 + j), none⟩ = some u)
theorem under_opn : ∃ fs : Array Field, Tryz.prog.underlying 49 = some (.struct fs) ∧ fs.map (fun f : Field => (f.type, f.offset)) = #[(3, 0), (3, 1), (3, 2), (27, 3)] := ⟨_, Tryz.underlying49, by kernel_rfl⟩
theorem ops_in {base : Nat} {v : Value} {d : DataW H} {p : List MemPlace} (hok : Value.okWide Tryz.prog w .any base 22 v) (h : DataW.Trod enc Tryz.prog w 0 (fun _ => true) true 22 v d p) :
    ∃ a len cap xs, v = .slice a len cap ∧ OpsIs w a len cap xs := by
  obtain ⟨a0, l0, c0, rfl⟩ := okWide_slice Tryz.underlying22 hok
  obtain ⟨fuel, hf⟩ := h
  rcases open_slice Tryz.underlying22 hf with ⟨hcs, _⟩ | ⟨a, len, cap, m, nn, D, Pl, hcs, _, hl, hm, hmm, _, hi⟩
  · simp [Value.cells] at hcs
    obtain ⟨rfl, rfl, rfl⟩ := hcs
    exact ⟨none, 0, 0, [], rfl, by omega, by unfold maxLen; omega, rfl, fun o ho => by simp at ho, fun h => by omega⟩
  · simp [Value.cells] at hcs
    obtain ⟨rfl, rfl, rfl⟩ := hcs
    obtain ⟨fs, hfs, hff⟩ := under_opn
    have hce : Tryz.prog.cellsOf 49 = 4 := by kernel_rfl
    have c4 : Tryz.prog.cellsOf 27 = 1 := by kernel_rfl
    have each : ∀ i, i < l0 → ∃ o : OpN, OpOk w o ∧ ∀ j u, (oval o)[j]? = some u → w.cell? (a.add (i * 4 + j)) = some u := by
      intro i hil
      obtain ⟨cs', h1, h2⟩ := hi i (by rw [hmm]; simp; omega)
      rw [hce] at h1
      obtain ⟨_, hcl, hat⟩ := World.cells?_some h1
      obtain ⟨xs, m', _, _, hlen, hxl, hfld⟩ := DataW.trod_struct hfs h2
      have hfa : ∀ (j : Nat) (t : TypeId) (o : Nat), (fs.map (fun f : Field => (f.type, f.offset)))[j]? = some (t, o) → ∃ f : Field, fs[j]? = some f ∧ f.type = t ∧ f.offset = o := by
        intro j t o hj
        rw [Array.getElem?_map] at hj
        cases hfj : fs[j]? with
        | none => rw [hfj] at hj; cases hj
        | some f => rw [hfj] at hj; injection hj with hj; injection hj with h1 h2; exact ⟨f, rfl, h1, h2⟩
      have get : ∀ (j : Nat) (t : TypeId), (fs.map (fun f : Field => (f.type, f.offset)))[j]? = some (t, j) → Tryz.prog.cellsOf t = 1 → j < fs.size → ∃ y, DataW.trod enc Tryz.prog w 0 (fun _ => true) true m' t ((cs'.drop j).take 1) = some y := by
        intro j t hj hc hjs
        obtain ⟨f, hf1, hf2, hf3⟩ := hfa j t j hj
        have := hfld j f hf1
        rw [hf2, hf3, hc] at this
        rw [this]
        exact ⟨_, List.getElem?_eq_getElem (by rw [hxl]; exact hjs)⟩
      have hfsz : fs.size = 4 := by have := congrArg Array.size hff; simpa using this
      obtain ⟨y0, hy0⟩ := get 0 _ (by rw [hff]; rfl) ci (by omega)
      obtain ⟨y1, hy1⟩ := get 1 _ (by rw [hff]; rfl) ci (by omega)
      obtain ⟨y2, hy2⟩ := get 2 _ (by rw [hff]; rfl) ci (by omega)
      obtain ⟨y3, hy3⟩ := get 3 _ (by rw [hff]; rfl) c4 (by omega)
      rw [hce] at hlen
      match cs', hlen with
      | [v0, v1, v2, v3], _ =>
        obtain ⟨z0, e0, _, w0⟩ := DataW.trod_int Tryz.underlying3 hy0
        obtain ⟨z1, e1, _, w1⟩ := DataW.trod_int Tryz.underlying3 hy1
        obtain ⟨z2, e2, _, w2⟩ := DataW.trod_int Tryz.underlying3 hy2
        obtain ⟨A, n, c, ps, e3, hP⟩ := row_in hy3
        simp at e0 e1 e2
        subst e0 e1 e2 e3
        refine ⟨⟨z0, z1, z2, A, n, c, ps⟩, ⟨w0, w1, w2, hP⟩, fun j u hu => ?_⟩
        have hj4 : j < 4 := by
          rcases Nat.lt_or_ge j 4 with h | h
          · exact h
          · rw [List.getElem?_eq_none (by simpa [oval] using h)] at hu; cases hu
        have h6 := hat j hj4
        rw [add_add_] at h6
        rw [h6]
        exact hu
    obtain ⟨xs, hxl, hxs⟩ := list_any op0 l0 each
    refine ⟨_, _, _, xs, rfl, hl, hm, hxl, fun o ho => ?_, fun h0 => ?_⟩
    · obtain ⟨i, hi2, rfl⟩ := List.mem_iff_getElem.1 ho
      exact (hxs i _ (List.getElem?_eq_getElem hi2)).1
    · obtain ⟨o, ho⟩ : ∃ o, xs[0]? = some o := ⟨_, List.getElem?_eq_getElem (by omega)⟩
      have h00 := (hxs 0 o ho).2 0 _ (by unfold oval; rfl)
      obtain ⟨b, off, rfl, _⟩ := ints_at (a := a) (k := .i64) (zs := [o.kind]) (w := w) (fun i hi => by
        obtain rfl : i = 0 := by simpa using hi
        exact h00) (by simp)
      refine ⟨b, off, rfl, World.block_lt_of_cell? w _ h00, fun i o ho j u hu => ?_⟩
      rw [← Go.WideShapes.add_plain]
      exact (hxs i o ho).2 j u hu
end
end Go.Proofs.YthnlfgogibjbnaaGreat.RB
