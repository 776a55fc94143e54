/- Rows of records: those that may be, and their bytes one behind the other. Plain. No condition. -/
import Derived.Test.YtmfbggdoejcpiaaRec14
namespace Go.Proofs.Ytmfbggdoejcpiaa.RC
open Go.RowKit Go.Proofs.Ytmfbggdoejcpiaa.WI Go.Proofs.Ytmfbggdoejcpiaa.SM
set_option linter.unusedVariables false
set_option linter.unusedSimpArgs false

def goodR (rs : List Re) : List Re := rs.filter fun r => decide (wrongE r.e r.l r.xs = 0)
def catR (rs : List Re) : ByteArray := rs.foldr (fun r b => putT r.e r.l r.xs ++ b) ⟨#[]⟩
theorem app_nil (b : ByteArray) : b ++ (⟨#[]⟩ : ByteArray) = b := ba_ext (by rw [app_dat]; simp)
theorem nil_app (b : ByteArray) : (⟨#[]⟩ : ByteArray) ++ b = b := ba_ext (by rw [app_dat]; simp)
theorem app_ass (a b c : ByteArray) : a ++ b ++ c = a ++ (b ++ c) := ba_ext (by rw [app_dat, app_dat, app_dat, app_dat, List.append_assoc])
theorem catR_snoc (rs : List Re) (r : Re) : catR (rs ++ [r]) = catR rs ++ putT r.e r.l r.xs := by
  induction rs with
  | nil => show putT r.e r.l r.xs ++ (⟨#[]⟩ : ByteArray) = (⟨#[]⟩ : ByteArray) ++ putT r.e r.l r.xs; rw [app_nil, nil_app]
  | cons x rs ih => show putT x.e x.l x.xs ++ catR (rs ++ [r]) = putT x.e x.l x.xs ++ catR rs ++ putT r.e r.l r.xs; rw [ih, app_ass]
theorem good_snoc_ok (rs : List Re) (k : Nat) (r : Re) (h : rs[k]? = some r) (hw : wrongE r.e r.l r.xs = 0) : goodR (rs.take (k + 1)) = goodR (rs.take k) ++ [r] := by
  unfold goodR
  rw [List.take_add_one, h, List.filter_append]
  simp [hw]
theorem good_snoc_bad (rs : List Re) (k : Nat) (r : Re) (h : rs[k]? = some r) (hw : wrongE r.e r.l r.xs ≠ 0) : goodR (rs.take (k + 1)) = goodR (rs.take k) := by
  unfold goodR
  rw [List.take_add_one, h, List.filter_append]
  simp [hw]
theorem good_len (rs : List Re) (k : Nat) : (goodR (rs.take k)).length ≤ k := by
  have h1 := List.length_filter_le (fun r : Re => decide (wrongE r.e r.l r.xs = 0)) (rs.take k)
  have h2 := List.length_take_le k rs
  unfold goodR
  omega
theorem good_fits {rs : List Re} {r : Re} (h : r ∈ goodR rs) : r ∈ rs ∧ Fits r.e r.l r.xs := by
  unfold goodR at h
  rw [List.mem_filter] at h
  exact ⟨h.1, wrong_iff.1 (by simpa using h.2)⟩
theorem secsN_le {n : Nat} (h : n ≤ 60) : secsN n ≤ 155 := by unfold secsN; omega
theorem catR_size (rs : List Re) (h : ∀ r ∈ rs, r.xs.length ≤ 60) : (catR rs).size ≤ 9920 * rs.length := by
  induction rs with
  | nil => show (⟨#[]⟩ : ByteArray).size ≤ 0; decide
  | cons x rs ih =>
    show (putT x.e x.l x.xs ++ catR rs).size ≤ _
    rw [ByteArray.size_append, putT_size rfl rfl]
    have h1 := ih (fun r hr => h r (List.mem_cons_of_mem _ hr))
    have h2 := secsN_le (h x List.mem_cons_self)
    rw [List.length_cons]
    omega
theorem flat_len (G : List Re) : (G.flatMap rval).length = 3 * G.length := by
  induction G with
  | nil => rfl
  | cons x G ih => rw [List.flatMap_cons, List.length_append, ih, List.length_cons]; show 3 + _ = _; omega
theorem flat_re (G : List Re) (i : Nat) (r : Re) (h : G[i]? = some r) (j : Nat) (hj : j < 3) : (G.flatMap rval)[i * 3 + j]? = (rval r)[j]? := by
  induction G generalizing i with
  | nil => simp at h
  | cons y ys ih =>
    have hl : (rval y).length = 3 := rfl
    rw [List.flatMap_cons]
    cases i with
    | zero =>
      simp at h
      subst h
      rw [List.getElem?_append_left (by rw [hl]; omega), Nat.zero_mul, Nat.zero_add]
    | succ i =>
      rw [List.getElem?_append_right (by rw [hl]; omega), hl, show (i + 1) * 3 + j - 3 = i * 3 + j by omega]
      exact ih i (by simpa using h)
section
variable {w W : World} {a : Option Addr} {len cap : Nat} {rs : List Re}
theorem RecOk.old {e l : Int} {A : Option Addr} {n c : Nat} {xs : List Im} (h : RecOk w e l A n c xs) (hb : Below w.heap.size w W) : RecOk W e l A n c xs := ⟨h.e, h.l, h.ims.old hb⟩
theorem RecsIs.old (h : RecsIs w a len cap rs) (hb : Below w.heap.size w W) : RecsIs W a len cap rs := by
  obtain ⟨h1, h2, h3, h4, h5⟩ := h
  refine ⟨h1, h2, h3, fun r hr => (h4 r hr).old hb, fun h0 => ?_⟩
  obtain ⟨b, off, e, hlt, hc⟩ := h5 h0
  refine ⟨b, off, e, Nat.lt_of_lt_of_le hlt hb.size, fun i o ho j u hu => ?_⟩
  rw [hb.cell hlt]
  exact hc i o ho j u hu
theorem RecsIs.at_ (h : RecsIs w a len cap rs) {k : Nat} (hk : k < len) : ∃ b off r, a = some ⟨b, off, none⟩ ∧ rs[k]? = some r ∧ RecOk w r.e r.l r.A r.n r.c r.xs ∧ b < w.heap.size ∧ (k : Int) < (cap : Int) ∧
    w.cell? ⟨b, off + k * 3, none⟩ = some (.int .u64 r.e) ∧ w.cell? ⟨b, off + k * 3 + 1, none⟩ = some (.int .u64 r.l) ∧ w.cell? ⟨b, off + k * 3 + 2, none⟩ = some (.slice r.A r.n r.c) := by
  obtain ⟨h1, h2, h3, h4, h5⟩ := h
  obtain ⟨b, off, e, hlt, hc⟩ := h5 (by omega)
  obtain ⟨o, ho⟩ : ∃ o, rs[k]? = some o := ⟨_, List.getElem?_eq_getElem (by omega)⟩
  have g := hc k o ho
  refine ⟨b, off, o, e, ho, h4 o (List.mem_of_getElem? ho), hlt, by omega, g 0 _ rfl, ?_, ?_⟩
  · have := g 1 _ rfl; rwa [← Nat.add_assoc] at this
  · have := g 2 _ rfl; rwa [← Nat.add_assoc] at this
end
end Go.Proofs.Ytmfbggdoejcpiaa.RC
