/- append onto a row of the call's own: the elder slice still holds what it held. Over any program. No condition. -/
import Derived.Test.YthnlfgogibjbnaaGreatAppend
namespace Go.Proofs.YthnlfgogibjbnaaGreat
set_option maxRecDepth 100000
open Go.RowKit
set_option linter.unusedVariables false

section
variable {P : Program} (w : World)
theorem append_kept (base : Nat) (t ty e : TypeId) (i : TypeInfo) (z : Value) (size bytes : Nat) (ht : P.underlying t = some (.slice e)) (hi : P.info? e = some i) (hz : i.zero = some z)
    (hsize : i.size = size) (hby : i.bytes = bytes) (hsz : 0 < size)
    (a : Option Addr) (n cap : Nat) (xs : List Value) (hown : w.ownsRow base e size (.slice a n cap) n xs)
    (A : Option Addr) (m c : Nat) (news : List Value) (hr : Lies w size A m news) (h1 : ∀ u ∈ news, u.oneCell' = true)
    (h63 : n + m ≤ maxLen) (hbytes : (n + m) * bytes ≤ 140737488355328) {v' : Value} {w' : World}
    (hrun : (Builtin.append_ #[t, t] ty #[.slice a n cap, .slice A m c]).run P w = .ok v' w') : w'.ownsRow base e size (.slice a n cap) n xs := by
  subst hsize
  subst hby
  have hsmall : n + m ≤ 9223372036854775807 := by simp only [maxLen] at h63; omega
  rcases Nat.eq_zero_or_pos m with hm | hm
  · subst hm
    have hn : news = [] := List.eq_nil_of_length_eq_zero (by simpa using hr.1)
    subst hn
    rcases hown.2 with ⟨hv, hn0⟩ | ⟨g, cap', cur, hv, hbg, hg, hnc, hcm, hcs, htake⟩
    · injection hv with q1 q2 q3
      subst q1 q2 q3
      have hx : xs = [] := List.eq_nil_of_length_eq_zero (by simpa using hown.1)
      subst hx
      exact World.ownsRow_nil _ _ _ _
    · rcases A with _ | ad
      · rw [run_append_source_nil w base t ty e i i.size ht hi _ n xs hown c] at hrun
        injection hrun with _ hw
        subst hw
        exact hown
      · have e2 := hv
        injection e2 with q1 q2 q3
        subst q1 q3
        have hr2 := run_append_room (P := P) w t ty e i ht hi g n cap cur hg ad 0 c [] (by simp) (by simp) (by simp) (by omega) (by simp [hcs]; exact Nat.mul_le_mul_right _ hnc)
        rw [hr2] at hrun
        injection hrun with _ hw
        subst hw
        exact ⟨hown.1, .inr ⟨g, cap, _, rfl, hbg, setRow_heap w g cur _ e _ hg, hnc, hcm, by simp [hcs], by
          rw [htake]; simp [hown.1]⟩⟩
  · obtain ⟨ad, rfl, hcells⟩ := hr.2 hm
    rcases hown.2 with ⟨hv, hn0⟩ | ⟨g, cap', cur, hv, hbg, hg, hnc, hcm, hcs, htake⟩
    · injection hv with q1 q2 q3
      subst q1 q2 q3
      have hx : xs = [] := List.eq_nil_of_length_eq_zero (by simpa using hown.1)
      subst hx
      exact World.ownsRow_nil _ _ _ _
    · have e2 := hv
      injection e2 with q1 q2 q3
      subst q1 q3
      by_cases hroom : n + m ≤ cap
      · have hfit : n * i.size + news.length ≤ cur.size := by rw [hr.1, hcs, ← Nat.add_mul]; exact Nat.mul_le_mul_right _ hroom
        have hr2 := run_append_room (P := P) w t ty e i ht hi g n cap cur hg ad m c news hr.1 hcells h1 hroom hfit
        rw [hr2] at hrun
        injection hrun with _ hw
        subst hw
        have hxl : xs.length = n * i.size := hown.1
        refine ⟨hown.1, .inr ⟨g, cap, _, rfl, hbg, setRow_heap w g cur _ e _ hg, hnc, hcm, ?_, ?_⟩⟩
        · simp only [List.size_toArray, List.length_append, List.length_take, List.length_drop, Array.length_toList]
          omega
        · rw [htake, List.append_assoc, ← hxl]
          exact List.take_left
      · have holds : ∀ j u, xs[j]? = some u → w.cell? ((⟨g, 0, none⟩ : Addr).add j) = some u := hown.cells (g := g) rfl
        have hr2 := run_append_grow (P := P) w t ty e i z ht hi hz ⟨g, 0, none⟩ n cap xs hown.1 holds ad m c news hr.1 hcells (by omega) (by omega) (growslice_fits (by omega) hbytes)
        rw [hr2] at hrun
        injection hrun with _ hw
        subst hw
        exact World.ownsRow.alloc (w := w.drew) hown _
theorem wpList_append_kept {ops : Array Oper} {rest : List Oper} {o : Oper} {ac : Act} {Q : Exit → Act → World → Prop} (hgd : o.guard = none) (s x : Operand) (t : TypeId)
    (ho : o.op = .call { callee := .builtin .append, args := #[s, x], argTypes := #[t, t] })
    (base : Nat) (e : TypeId) (i : TypeInfo) (z : Value) (size bytes : Nat) (ht : P.underlying t = some (.slice e)) (hi : P.info? e = some i) (hz : i.zero = some z)
    (hsize : i.size = size) (hby : i.bytes = bytes) (hzs : z.cells.size = size) (hsz : 0 < size)
    (a : Option Addr) (n cap : Nat) (xs : List Value) (hs : ac.eval s = .slice a n cap) (hown : w.ownsRow base e size (.slice a n cap) n xs)
    (A : Option Addr) (m c : Nat) (news : List Value) (hx : ac.eval x = .slice A m c) (hr : Lies w size A m news) (h1 : ∀ u ∈ news, u.oneCell' = true)
    (h63 : n + m ≤ maxLen) (hbytes : (n + m) * bytes ≤ 140737488355328) (hbase : base ≤ w.heap.size)
    (h : ∀ a' cap' w', w'.ownsRow base e size (.slice a' (n + m) cap') (n + m) (xs ++ news) → w'.ownsRow base e size (.slice a n cap) n xs → w.grownBy w' (Value.slice a 0 0).ownBlock →
      ((Value.slice a' 0 0).ownBlock = (Value.slice a 0 0).ownBlock ∨ (Value.slice a' 0 0).ownBlock = some w.heap.size) → wpList P ops Q rest (ac.put o.dst (.slice a' (n + m) cap')) w') : wpList P ops Q (o :: rest) ac w := by
  refine wpList_plain hgd fun K hK => ?_
  obtain ⟨a', cap', w', hrun, h2, h3, h4⟩ := run_append_lie (P := P) w base t o.type e i z size bytes ht hi hz hsize hby hzs hsz a n cap xs hown A m c news hr h1 h63 hbytes hbase
  have h5 := append_kept w base t o.type e i z size bytes ht hi hz hsize hby hsz a n cap xs hown A m c news hr h1 h63 hbytes hrun
  unfold Oper.wp execOp
  simp only [ho, resolve, invoke, builtin, Sem.run_bind, Sem.run_pure, Result.andThen_ok, List.map_toArray, List.map_cons, List.map_nil, hs, hx, hrun]
  exact hK _ _ (h a' cap' w' h2 h5 h3 h4)
end
end Go.Proofs.YthnlfgogibjbnaaGreat
