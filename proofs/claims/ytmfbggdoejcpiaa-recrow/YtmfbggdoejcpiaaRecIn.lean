/- What a law is told of a head, of a record, of a row of records that came in. No condition. -/
import Derived.Test.YtmfbggdoejcpiaaRec12
import Derived.Test.YtmfbggdoejcpiaaOpen
import Derived.Deep.Strs
namespace Go.Proofs.Ytmfbggdoejcpiaa.RC
open Go.RowKit Go.Proofs.Ytmfbggdoejcpiaa.WI Go.Proofs.Ytmfbggdoejcpiaa.SM Go.WideShapes Go.ChangeShapes Go.Deep
set_option linter.unusedVariables false
set_option linter.unusedSimpArgs false

theorem list_any {α : Type} (d : α) {Q : Nat → α → Prop} (n : Nat) (each : ∀ i, i < n → ∃ z, Q i z) : ∃ zs : List α, zs.length = n ∧ ∀ i z, zs[i]? = some z → Q i z := by
  induction n with
  | zero => exact ⟨[], rfl, fun i z h => by simp at h⟩
  | succ n ih =>
    obtain ⟨zs, hz, hq⟩ := ih (fun i hi => each i (by omega))
    obtain ⟨z, hz1⟩ := each n (by omega)
    refine ⟨zs ++ [z], by simp [hz], fun i y hy => ?_⟩
    by_cases hil : i < n
    · rw [List.getElem?_append_left (by omega)] at hy; exact hq i y hy
    · rw [List.getElem?_append_right (by omega)] at hy
      have hi : i - zs.length = 0 := by
        rcases Nat.eq_zero_or_pos (i - zs.length) with h | h
        · exact h
        · rw [List.getElem?_eq_none (by simp; omega)] at hy; cases hy
      rw [hi] at hy
      obtain rfl : i = n := by omega
      simp at hy
      subst hy
      exact hz1
section
variable {H : Type} {enc : TypeId × Value → H} {w : World}
/-- A struct of three places. -/
theorem three {t t0 t1 t2 : TypeId} {fuel : Nat} {cs : List Value} {x : DataW H × List MemPlace}
    (hu : ∃ fs : Array Field, Try.prog.underlying t = some (.struct fs) ∧ fs.map (fun f : Field => (f.type, f.offset)) = #[(t0, 0), (t1, 1), (t2, 2)])
    (hc : Try.prog.cellsOf t = 3) (c0 : Try.prog.cellsOf t0 = 1) (c1 : Try.prog.cellsOf t1 = 1) (c2 : Try.prog.cellsOf t2 = 1)
    (h : DataW.trod enc Try.prog w 0 (fun _ => true) true fuel t cs = some x) :
    ∃ v0 v1 v2 y0 y1 y2 n, cs = [v0, v1, v2] ∧ DataW.trod enc Try.prog w 0 (fun _ => true) true n t0 [v0] = some y0 ∧ DataW.trod enc Try.prog w 0 (fun _ => true) true n t1 [v1] = some y1 ∧ DataW.trod enc Try.prog w 0 (fun _ => true) true n t2 [v2] = some y2 := by
  obtain ⟨fs, hfs, hff⟩ := hu
  obtain ⟨xs, m', _, _, hlen, hxl, hfld⟩ := DataW.trod_struct hfs h
  have hfsz : fs.size = 3 := by have := congrArg Array.size hff; simpa using this
  have hfa : ∀ (j : Nat) (t : TypeId) (o : Nat), (fs.map (fun f : Field => (f.type, f.offset)))[j]? = some (t, o) → ∃ f : Field, fs[j]? = some f ∧ f.type = t ∧ f.offset = o := by
    intro j t o hj
    rw [Array.getElem?_map] at hj
    cases hfj : fs[j]? with
    | none => rw [hfj] at hj; cases hj
    | some f => rw [hfj] at hj; injection hj with hj; injection hj with h1 h2; exact ⟨f, rfl, h1, h2⟩
  have get : ∀ (j : Nat) (t : TypeId), (fs.map (fun f : Field => (f.type, f.offset)))[j]? = some (t, j) → Try.prog.cellsOf t = 1 → j < fs.size → ∃ y, DataW.trod enc Try.prog w 0 (fun _ => true) true m' t ((cs.drop j).take 1) = some y := by
    intro j t hj hc hjs
    obtain ⟨f, hf1, hf2, hf3⟩ := hfa j t j hj
    have := hfld j f hf1
    rw [hf2, hf3, hc] at this
    rw [this]
    exact ⟨_, List.getElem?_eq_getElem (by rw [hxl]; exact hjs)⟩
  rw [hc] at hlen
  obtain ⟨y0, hy0⟩ := get 0 _ (by rw [hff]; rfl) c0 (by omega)
  obtain ⟨y1, hy1⟩ := get 1 _ (by rw [hff]; rfl) c1 (by omega)
  obtain ⟨y2, hy2⟩ := get 2 _ (by rw [hff]; rfl) c2 (by omega)
  match cs, hlen with
  | [v0, v1, v2], _ => exact ⟨v0, v1, v2, y0, y1, y2, m', rfl, hy0, hy1, hy2⟩
theorem under_head : ∃ fs : Array Field, Try.prog.underlying 39 = some (.struct fs) ∧ fs.map (fun f : Field => (f.type, f.offset)) = #[(22, 0), (22, 1), (3, 2)] := ⟨_, Try.underlying39, by kernel_rfl⟩
theorem under_rec : ∃ fs : Array Field, Try.prog.underlying 25 = some (.struct fs) ∧ fs.map (fun f : Field => (f.type, f.offset)) = #[(22, 0), (22, 1), (23, 2)] := ⟨_, Try.underlying25, by kernel_rfl⟩
theorem under_im : ∃ fs : Array Field, Try.prog.underlying TIm = some (.struct fs) ∧ fs.map (fun f : Field => (f.type, f.offset)) = #[(3, 0), (22, 1), (9, 2)] := ⟨_, Try.underlying48, by kernel_rfl⟩
theorem ci : Try.prog.cellsOf 3 = 1 := by kernel_rfl
theorem cu : Try.prog.cellsOf 22 = 1 := by kernel_rfl
theorem cst : Try.prog.cellsOf 9 = 1 := by kernel_rfl
theorem csl : Try.prog.cellsOf 23 = 1 := by kernel_rfl
theorem cim : Try.prog.cellsOf TIm = 3 := by kernel_rfl
theorem chd : Try.prog.cellsOf 39 = 3 := by kernel_rfl
theorem crc : Try.prog.cellsOf 25 = 3 := by kernel_rfl
structure HeadOk (e l a : Int) : Prop where
  e : 0 ≤ e ∧ e ≤ 18446744073709551615
  l : 0 ≤ l ∧ l ≤ 18446744073709551615
  a : -9223372036854775808 ≤ a ∧ a ≤ 9223372036854775807
theorem head_in {base : Nat} {v : Value} {d : DataW H} {p : List MemPlace} (hok : Value.okWide Try.prog w .any base 39 v) (h : DataW.Trod enc Try.prog w 0 (fun _ => true) true 39 v d p) :
    ∃ e l a, v = .agg #[.int .u64 e, .int .u64 l, .int .i64 a] ∧ HeadOk e l a := by
  obtain ⟨fs, hfs, hff⟩ := under_head
  obtain ⟨cs, rfl, hsz⟩ := okWide_struct hfs hok
  obtain ⟨fuel, hf⟩ := h
  obtain ⟨v0, v1, v2, y0, y1, y2, n, hcs, h0, h1, h2⟩ := three ⟨fs, hfs, hff⟩ chd cu cu ci hf
  have hcs' : cs = #[v0, v1, v2] := by
    have : (Value.cells (.agg cs)).toList = cs.toList := by simp [Value.cells]
    rw [this] at hcs
    exact Array.toList_inj.1 (by rw [hcs])
  obtain ⟨z0, e0, _, w0⟩ := DataW.trod_int Try.underlying22 h0
  obtain ⟨z1, e1, _, w1⟩ := DataW.trod_int Try.underlying22 h1
  obtain ⟨z2, e2, _, w2⟩ := DataW.trod_int Try.underlying3 h2
  simp at e0 e1 e2
  subst e0 e1 e2
  exact ⟨z0, z1, z2, by rw [hcs'], ⟨bounds_u64 w0, bounds_u64 w1, bounds_i64 w2⟩⟩
/-- A row of images that came in, wherever it was read. -/
theorem images_in {fuel : Nat} {v : Value} {x : DataW H × List MemPlace} (hf : DataW.trod enc Try.prog w 0 (fun _ => true) true fuel 23 [v] = some x) :
    ∃ A n c xs, v = .slice A n c ∧ Ims w A n c xs := by
  rcases open_slice Try.underlying23 hf with ⟨hcs, _⟩ | ⟨a, len, cap, m, nn, D, Pl, hcs, _, hl, hm, hmm, _, hi⟩
  · simp at hcs
    exact ⟨none, 0, 0, [], hcs, by omega, by unfold maxLen; omega, rfl, fun o ho => by simp at ho, fun h => by omega⟩
  · simp at hcs
    have each : ∀ i, i < len → ∃ o : Im, ImOk o ∧ ∀ j u, (ival o)[j]? = some u → w.cell? (a.add (i * 3 + j)) = some u := by
      intro i hil
      obtain ⟨cs', h1, h2⟩ := hi i (by rw [hmm]; simp; omega)
      rw [show Try.prog.cellsOf 48 = 3 from cim] at h1
      obtain ⟨_, hcl, hat⟩ := World.cells?_some h1
      obtain ⟨v0, v1, v2, y0, y1, y2, n, rfl, k0, k1, k2⟩ := three under_im cim ci cu cst h2
      obtain ⟨z0, e0, _, w0⟩ := DataW.trod_int Try.underlying3 k0
      obtain ⟨z1, e1, _, w1⟩ := DataW.trod_int Try.underlying22 k1
      obtain ⟨z2, e2, _, w2⟩ := DataW.trod_string Try.underlying9 k2
      simp at e0 e1 e2
      subst e0 e1 e2
      refine ⟨⟨z0, z1, z2⟩, ⟨bounds_i64 w0, bounds_u64 w1, by unfold maxLen at w2; exact w2⟩, fun j u hu => ?_⟩
      have hj3 : j < 3 := by
        rcases Nat.lt_or_ge j 3 with h | h
        · exact h
        · rw [List.getElem?_eq_none (by simpa [ival] using h)] at hu; cases hu
      have h6 := hat j hj3
      rw [add_add_] at h6
      rw [h6]
      exact hu
    obtain ⟨xs, hxl, hxs⟩ := list_any im0 len each
    refine ⟨_, _, _, xs, hcs, hl, hm, hxl, fun o ho => ?_, fun h0 => ?_⟩
    · obtain ⟨i, hi2, rfl⟩ := List.mem_iff_getElem.1 ho
      exact (hxs i _ (List.getElem?_eq_getElem hi2)).1
    · obtain ⟨o, ho⟩ : ∃ o, xs[0]? = some o := ⟨_, List.getElem?_eq_getElem (by omega)⟩
      have h00 := (hxs 0 o ho).2 0 _ (by unfold ival; rfl)
      obtain ⟨b, off, rfl, _⟩ := ints_at (a := a) (k := .i64) (zs := [o.b]) (w := w) (fun i hi => by
        obtain rfl : i = 0 := by simpa using hi
        exact h00) (by simp)
      refine ⟨b, off, rfl, World.block_lt_of_cell? w _ h00, fun i o ho j u hu => ?_⟩
      rw [← Go.WideShapes.add_plain]
      exact (hxs i o ho).2 j u hu
structure RecOk (w : World) (e l : Int) (A : Option Addr) (n c : Nat) (xs : List Im) : Prop where
  e : 0 ≤ e ∧ e ≤ 18446744073709551615
  l : 0 ≤ l ∧ l ≤ 18446744073709551615
  ims : Ims w A n c xs
theorem rec_in_cells {fuel : Nat} {cs : List Value} {x : DataW H × List MemPlace} (hf : DataW.trod enc Try.prog w 0 (fun _ => true) true fuel 25 cs = some x) :
    ∃ e l A n c xs, cs = [.int .u64 e, .int .u64 l, .slice A n c] ∧ RecOk w e l A n c xs := by
  obtain ⟨v0, v1, v2, y0, y1, y2, n, rfl, h0, h1, h2⟩ := three under_rec crc cu cu csl hf
  obtain ⟨z0, e0, _, w0⟩ := DataW.trod_int Try.underlying22 h0
  obtain ⟨z1, e1, _, w1⟩ := DataW.trod_int Try.underlying22 h1
  obtain ⟨A, k, c, xs, rfl, hI⟩ := images_in h2
  simp at e0 e1
  subst e0 e1
  exact ⟨z0, z1, A, k, c, xs, rfl, ⟨bounds_u64 w0, bounds_u64 w1, hI⟩⟩
theorem rec_in {base : Nat} {v : Value} {d : DataW H} {p : List MemPlace} (hok : Value.okWide Try.prog w .any base 25 v) (h : DataW.Trod enc Try.prog w 0 (fun _ => true) true 25 v d p) :
    ∃ e l A n c xs, v = .agg #[.int .u64 e, .int .u64 l, .slice A n c] ∧ RecOk w e l A n c xs := by
  obtain ⟨fs, hfs, hff⟩ := under_rec
  obtain ⟨cs, rfl, hsz⟩ := okWide_struct hfs hok
  obtain ⟨fuel, hf⟩ := h
  obtain ⟨e, l, A, n, c, xs, hcs, hr⟩ := rec_in_cells hf
  have hcs' : cs = #[.int .u64 e, .int .u64 l, .slice A n c] := by
    have : (Value.cells (.agg cs)).toList = cs.toList := by simp [Value.cells]
    rw [this] at hcs
    exact Array.toList_inj.1 (by rw [hcs])
  exact ⟨e, l, A, n, c, xs, by rw [hcs'], hr⟩
/-- A record as it stands in memory. -/
structure Re where
  e : Int
  l : Int
  A : Option Addr
  n : Nat
  c : Nat
  xs : List Im
abbrev re0 : Re := ⟨0, 0, none, 0, 0, []⟩
def rval (r : Re) : List Value := [.int .u64 r.e, .int .u64 r.l, .slice r.A r.n r.c]
def RecsIs (w : World) (a : Option Addr) (len cap : Nat) (rs : List Re) : Prop :=
  len ≤ cap ∧ cap ≤ maxLen ∧ rs.length = len ∧ (∀ r ∈ rs, RecOk w r.e r.l r.A r.n r.c r.xs) ∧
  (0 < len → ∃ b off, a = some ⟨b, off, none⟩ ∧ b < w.heap.size ∧ ∀ i r, rs[i]? = some r → ∀ j u, (rval r)[j]? = some u → w.cell? ⟨b, off + (i * 3 + j), none⟩ = some u)
theorem recs_in {base : Nat} {v : Value} {d : DataW H} {p : List MemPlace} (hok : Value.okWide Try.prog w .any base 44 v) (h : DataW.Trod enc Try.prog w 0 (fun _ => true) true 44 v d p) :
    ∃ a len cap rs, v = .slice a len cap ∧ RecsIs w a len cap rs := by
  obtain ⟨a0, l0, c0, rfl⟩ := okWide_slice Try.underlying44 hok
  obtain ⟨fuel, hf⟩ := h
  rcases open_slice Try.underlying44 hf with ⟨hcs, _⟩ | ⟨a, len, cap, m, nn, D, Pl, hcs, _, hl, hm, hmm, _, hi⟩
  · simp [Value.cells] at hcs
    obtain ⟨rfl, rfl, rfl⟩ := hcs
    exact ⟨none, 0, 0, [], rfl, by omega, by unfold maxLen; omega, rfl, fun o ho => by simp at ho, fun h => by omega⟩
  · simp [Value.cells] at hcs
    obtain ⟨rfl, rfl, rfl⟩ := hcs
    have each : ∀ i, i < l0 → ∃ r : Re, RecOk w r.e r.l r.A r.n r.c r.xs ∧ ∀ j u, (rval r)[j]? = some u → w.cell? (a.add (i * 3 + j)) = some u := by
      intro i hil
      obtain ⟨cs', h1, h2⟩ := hi i (by rw [hmm]; simp; omega)
      rw [crc] at h1
      obtain ⟨_, hcl, hat⟩ := World.cells?_some h1
      obtain ⟨e, l, A, n, c, xs, rfl, hr⟩ := rec_in_cells h2
      refine ⟨⟨e, l, A, n, c, xs⟩, hr, fun j u hu => ?_⟩
      have hj3 : j < 3 := by
        rcases Nat.lt_or_ge j 3 with h | h
        · exact h
        · rw [List.getElem?_eq_none (by simpa [rval] using h)] at hu; cases hu
      have h6 := hat j hj3
      rw [add_add_] at h6
      rw [h6]
      exact hu
    obtain ⟨rs, hxl, hxs⟩ := list_any re0 l0 each
    refine ⟨_, _, _, rs, rfl, hl, hm, hxl, fun o ho => ?_, fun h0 => ?_⟩
    · obtain ⟨i, hi2, rfl⟩ := List.mem_iff_getElem.1 ho
      exact (hxs i _ (List.getElem?_eq_getElem hi2)).1
    · obtain ⟨o, ho⟩ : ∃ o, rs[0]? = some o := ⟨_, List.getElem?_eq_getElem (by omega)⟩
      have h00 := (hxs 0 o ho).2 0 _ (by unfold rval; rfl)
      obtain ⟨b, off, rfl, _⟩ := ints_at (a := a) (k := .u64) (zs := [o.e]) (w := w) (fun i hi => by
        obtain rfl : i = 0 := by simpa using hi
        exact h00) (by simp)
      refine ⟨b, off, rfl, World.block_lt_of_cell? w _ h00, fun i o ho j u hu => ?_⟩
      rw [← Go.WideShapes.add_plain]
      exact (hxs i o ho).2 j u hu
end
end Go.Proofs.Ytmfbggdoejcpiaa.RC
