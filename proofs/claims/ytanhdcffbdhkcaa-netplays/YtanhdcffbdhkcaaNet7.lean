/- NetPlays' reference: its form in memory; There, ends; same. No condition. -/
import Derived.Test.YtanhdcffbdhkcaaNet6
namespace Go.Proofs.Ytanhdcffbdhkcaa.NP
set_option maxRecDepth 100000
open Go.RowKit Go.Proofs.Ytanhdcffbdhkcaa.RP Go.Proofs.Ytanhdcffbdhkcaa.CM Go.Proofs.Ytanhdcffbdhkcaa.NT
set_option linter.unusedVariables false

abbrev RT : TypeId := 43
abbrev RK : TypeId := 55
def val2 (c : Int × Int) : List Value := [.int .i64 c.1, .int .i64 c.2]
/-- Block r is the reference's net: its datagrams xs, what is cut cs, in rows that were made since B. -/
structure RefAt (w : World) (B r : Nat) (a : Option Addr) (c : Nat) (ka : Option Addr) (kc : Nat) (xs : List Pk) (cs : List (Int × Int)) : Prop where
  blk : Blk w r RT #[.slice a xs.length c, .slice ka cs.length kc]
  row : w.ownsRow B RK 3 (.slice a xs.length c) xs.length (xs.flatMap val)
  cut : w.ownsRow B 63 2 (.slice ka cs.length kc) cs.length (cs.flatMap val2)
  ge : B ≤ r
section
variable {w : World} {B r c kc : Nat} {a ka : Option Addr} {xs : List Pk} {cs : List (Int × Int)}
theorem there_any (h : RefAt w B r a c ka kc xs cs) (k : Int) : Calls Try.prog 28 #[.pointer (some ⟨r, 0, none⟩), .int .i64 k] w fun e w' => e = .returned (.bool (inB xs k)) ∧ w = w' := by
  have h0 : w.cell? ⟨r, 0, none⟩ = some (.slice a xs.length c) := h.blk.cell 0
  clear h
  by_cases k0 : k < 0
  · have hi : inB xs k = false := by unfold inB; simp; omega
    rw [hi]
    go_enter Try.func28, Try.ntmps28
    go_wp2
    go_ret
    exact ⟨rfl, rfl⟩
  have k0' : 0 ≤ k := by omega
  clear k0
  by_cases k1 : k < (xs.length : Int)
  · have hi : inB xs k = true := by unfold inB; simp; omega
    rw [hi]
    go_enter Try.func28, Try.ntmps28
    go_wp2
    go_ret
    exact ⟨rfl, rfl⟩
  · have hi : inB xs k = false := by unfold inB; simp; omega
    rw [hi]
    go_enter Try.func28, Try.ntmps28
    go_wp2
    go_ret
    exact ⟨rfl, rfl⟩
end
theorem rends_any (x y : Int) (w : World) : Calls Try.prog 38 #[.int .i64 x, .int .i64 y] w fun e w' => e = .returned (pairV (min x y) (max x y)) ∧ Below w.heap.size w w' := by
  go_enter Try.func38, Try.ntmps38
  go_wp2
  all_goals exact bodyPost_ret (v := pairV (min x y) (max x y)) (by simp [results, Try.results38, go_sem]) rfl ⟨rfl, (Below.refl _ _).alloc (Nat.le_refl _) _⟩
/-- Are they one datagram? -/
def sameB (p q : Pk) : Bool := p.f == q.f && p.t == q.t && p.d.toList == q.d.toList
theorem same_any (p q : Pk) (w : World) : Calls Try.prog 23 #[agg p, agg q] w fun e w' => e = .returned (.bool (sameB p q)) ∧ Below w.heap.size w w' := by
  obtain ⟨f1, t1, d1⟩ := p
  obtain ⟨f2, t2, d2⟩ := q
  obtain ⟨u1, h1⟩ : ∃ u, (f1 == f2) = u := ⟨_, rfl⟩
  obtain ⟨u2, h2⟩ : ∃ u, (t1 == t2) = u := ⟨_, rfl⟩
  obtain ⟨u3, h3⟩ : ∃ u, (d1.toList == d2.toList) = u := ⟨_, rfl⟩
  have hs : sameB ⟨f1, t1, d1⟩ ⟨f2, t2, d2⟩ = (u1 && u2 && u3) := by unfold sameB; rw [h1, h2, h3]
  rw [hs]
  clear hs
  have hb : Below w.heap.size w ((w.alloc (.cells #[.int .i64 f1, .int .i64 t1, .string d1] TP)).alloc (.cells #[.int .i64 f2, .int .i64 t2, .string d2] RK)) := belowNew (belowNew (belowSame _) _) _
  cases u1
  · go_enter Try.func23, Try.ntmps23
    go_wp2
    go_ret
    exact ⟨rfl, hb⟩
  cases u2
  · go_enter Try.func23, Try.ntmps23
    go_wp2
    go_ret
    exact ⟨rfl, hb⟩
  cases u3
  · go_enter Try.func23, Try.ntmps23
    go_wp2
    go_ret
    exact ⟨rfl, hb⟩
  · go_enter Try.func23, Try.ntmps23
    go_wp2
    go_ret
    exact ⟨rfl, hb⟩
end Go.Proofs.Ytanhdcffbdhkcaa.NP
