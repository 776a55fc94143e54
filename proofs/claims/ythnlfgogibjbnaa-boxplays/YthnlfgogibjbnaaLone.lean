/- A function that comes to a select, alone in its goroutine: what lies ahead of the select and behind it by the plain walk. Over any program. No condition. -/
import Derived.Test.YthnlfgogibjbnaaBase
import Derived.Conc.LoneSelect
import Derived.Defers
namespace Go.Proofs.Ythnlfgogibjbnaa
open Go.RowKit Go.Conc
set_option linter.unusedVariables false

section
variable {P : Program} {Q : Goroutine → World → Prop} {b : Frame} {a : Act} {k : List Item} {cs : List Frame} {w : World}

theorem lone_steps {g g' : Goroutine} {w w' : World} (h : Steps P (solo g w) (solo g' w')) (h' : LoneTo P Q g' w') : LoneTo P Q g w :=
  let ⟨g₂, w₂, hs, hq⟩ := h'; ⟨g₂, w₂, h.trans hs, hq⟩
theorem lone_seq {x y : Code} (h : LoneTo P Q (G (b.at a (.code x :: .code y :: k)) cs) w) : LoneTo P Q (G (b.at a (.code (.seq x y) :: k)) cs) w :=
  lone_steps (.one step_seq) h
theorem lone_block {id : Nat} {c : Code} (h : LoneTo P Q (G (b.at a (.code c :: .inBlock id :: k)) cs) w) : LoneTo P Q (G (b.at a (.code (.block id c) :: k)) cs) w :=
  lone_steps (.one step_block) h
theorem lone_code {c : Code} (h : ∀ K : Act → World → Prop, (∀ a' w', LoneTo P Q (G (b.at a' k) cs) w' → K a' w') → c.wp P (Exit.then K (fun _ _ _ => False)) a w) : LoneTo P Q (G (b.at a (.code c :: k)) cs) w := by
  obtain ⟨e, a', w', hq, harr⟩ := h _ (fun _ _ h => h) b k cs
  cases e with
  | normal => exact lone_steps harr hq
  | exit id => exact hq.elim
  | goto l => exact hq.elim
  | ret => exact hq.elim
  | panic c => exact hq.elim
  | outgrown => exact hq.elim

/-- What a call is asked for at its end. -/
def AtEnd (P : Program) (f : FuncId) (cs : List Frame) (R : Ending → World → Prop) (g' : Goroutine) (w' : World) : Prop :=
  ∃ e fr, g' = G fr cs ∧ R e w' ∧ fr.fn = f ∧ fr.leaving P w' e

theorem lone_ret {c : Code} {fn : Func} {R : Ending → World → Prop} (hno : ∀ w', ¬ R .outgrown w') (hf : P.funcs[b.fn]? = some fn) (hk : b.kind = .normal)
    (h : c.wp P (Exit.then (fun _ _ => False) (bodyPostD P fn R)) a w) : LoneTo P (AtEnd P b.fn cs R) (G (b.at a (.code c :: k)) cs) w := by
  obtain ⟨e, a', w', hq, harr⟩ := h b k cs
  have fin : ∀ (m : Machine) (e' : Ending) (w'' : World) (fr fr' : Frame), Steps P (solo (G (b.at a (.code c :: k)) cs) w) m → R e' w'' → Comes P m (lone fr' cs w'') e' → fr'.fn = b.fn → fr'.leaving P w'' e' →
      LoneTo P (AtEnd P b.fn cs R) (G (b.at a (.code c :: k)) cs) w := by
    intro m e' w'' fr fr' hs hR hc hfn hl
    cases e' with
    | returned v => exact ⟨G fr' cs, w'', hs.trans hc, _, fr', rfl, hR, hfn, hl⟩
    | panicked ch => exact ⟨G fr' cs, w'', hs.trans hc, _, fr', rfl, hR, hfn, hl⟩
    | outgrown => exact absurd hR (hno _)
  cases e with
  | normal => exact hq.elim
  | exit id => exact hq.elim
  | goto l => exact hq.elim
  | ret =>
    obtain ⟨todo, hs⟩ := harr
    obtain ⟨e', w'', fr', hR, hc, hfn, hl⟩ := leaves_steps a'.defers .returning w' { b.at a' todo with mode := .returning } cs rfl rfl rfl hf hk hq
    exact fin _ e' w'' fr' fr' hs hR hc hfn hl
  | panic c =>
    obtain ⟨todo, hs⟩ := harr
    obtain ⟨e', w'', fr', hR, hc, hfn, hl⟩ := leaves_steps a'.defers (.panicking c) w' { b.at a' todo with mode := .panicking c } cs rfl rfl rfl hf hk hq
    exact fin _ e' w'' fr' fr' hs hR hc hfn hl
  | outgrown => exact absurd hq (hno _)

theorem calls_of_lone {f : FuncId} {fn : Func} {c : Code} {args : Array Value} {R : Ending → World → Prop} (hf : P.funcs[f]? = some fn) (hb : fn.body = some c) (hno : ∀ w', ¬ R .outgrown w')
    (h : ∀ cs, LoneTo P (AtEnd P f cs R) (G ((base f).at { tmps := args ++ Array.replicate (fn.ntmps - args.size) undef, defers := [] } [.code c]) cs) w) : Calls P f args w R := by
  refine calls_of_loneTo (fun cs => ?_) hno
  have henter : Frame.enter P f args .normal = (base f).at { tmps := args ++ Array.replicate (fn.ntmps - args.size) undef, defers := [] } [.code c] := by
    simp [Frame.enter, Frame.at, hf, hb, base]
  rw [henter]
  exact h cs
end
end Go.Proofs.Ythnlfgogibjbnaa
