/- The net: New, list, Len, Clear, Peek, ends. No condition. -/
import Derived.Test.YtanhdcffbdhkcaaNetDef
import Derived.Test.YtanhdcffbdhkcaaRegInv
import Derived.Test.YtanhdcffbdhkcaaMore
import Derived.Deep.RegionHeld3
namespace Go.Proofs.Ytanhdcffbdhkcaa.NT
set_option maxRecDepth 100000
open Go.RowKit Go.Proofs.Ytanhdcffbdhkcaa.RP Go.Proofs.Ytanhdcffbdhkcaa.CM
set_option linter.unusedVariables false

/-- As NetOut, the net has a ring; what is cut is as it was. -/
def RingedOut (w : World) (B g : Nat) (lp : Option Nat) (a : Option Addr) (mp : Option Nat) (N : Nat) (xs : List Pk) (C : Int → Int → Bool) (w' : World) : Prop :=
  ∃ r a' c', NetAt w' B g (some r) a' c' mp N xs C ∧ Keeps (netF g lp a mp) w w' ∧ Grows w (netF g lp a mp) (netF g (some r) a' mp)
section
variable {w w' : World} {B g N : Nat} {lp mp : Option Nat} {a : Option Addr} {c : Nat} {xs : List Pk} {C : Int → Int → Bool}
theorem RingedOut.out (h : RingedOut w B g lp a mp N xs C w') : NetOut w B g lp a mp N xs C w' := by
  obtain ⟨r, a', c', h1, h2, h3⟩ := h
  exact ⟨some r, a', c', mp, h1, h2, h3⟩
theorem RingedOut.then_ {w2 : World} (h : RingedOut w B g lp a mp N xs C w') (hb : Below w'.heap.size w' w2) : RingedOut w B g lp a mp N xs C w2 := by
  obtain ⟨r, a', c', h1, h2, h3⟩ := h
  exact ⟨r, a', c', h1.old hb, h2.trans (Keeps.of_below hb (fun _ => False)) (fun _ _ h => h.elim), h3⟩
theorem RingedOut.from_ {w0 : World} (hb : Below w0.heap.size w0 w) (h : RingedOut w B g lp a mp N xs C w') : RingedOut w0 B g lp a mp N xs C w' := by
  obtain ⟨r, a', c', h1, h2, h3⟩ := h
  exact ⟨r, a', c', h1, (Keeps.of_below hb (netF g lp a mp)).trans h2 (fun _ _ h => h), fun k hk => (h3 k hk).imp id (fun h => Nat.le_trans hb.size h)⟩
theorem RingedOut.here {r : Nat} (h : NetAt w B g (some r) a c mp N xs C) : RingedOut w B g (some r) a mp N xs C w := ⟨r, a, c, h, Keeps.refl _ _, Grows.refl _ _⟩
/-- A call of the ring behind. -/
theorem RingedOut.ring {r : Nat} {a1 : Option Addr} {c1 : Nat} {w1 : World} {ys : List Pk} (h1 : NetAt w1 B g (some r) a1 c1 mp N xs C) (k1 : Keeps (netF g lp a mp) w w1) (g1 : Grows w (netF g lp a mp) (netF g (some r) a1 mp))
    (ho : RingOutN val 3 TR TP w1 B r 900 a1 ys w') : RingedOut w B g lp a mp N ys C w' := by
  have hr := ring_of h1
  obtain ⟨a', c', e1, e2, e3⟩ := ho
  obtain ⟨lp2, a2, c2, mp2, f1, f2, f3⟩ := h1.ringOut ⟨a', c', e1, e2, e3⟩
  have hgr : g ≠ r := h1.blk.ne_ hr.blk (by decide)
  have hga : (Value.slice a1 0 0).ownBlock ≠ some g := by have := own_ne hr.own h1.blk (show TP ≠ TN by decide); rwa [own_blk] at this
  have hnot : ¬ ringF r a1 g := by rintro (h | h); exact hgr h; exact hga h
  have hb := h1.blk.keeps e2 hnot
  have f0 : lp2 = some r ∧ mp2 = mp := by
    have hbl := f1.blk
    unfold Blk at hbl hb
    rw [hb] at hbl
    injection hbl with hbl
    injection hbl with hbl
    simp [lptr] at hbl
    obtain ⟨h1, h2⟩ := hbl
    refine ⟨?_, h2.symm⟩
    cases lp2 with
    | none => simp at h1
    | some x => simp at h1; rw [h1]
  obtain ⟨rfl, rfl⟩ := f0
  exact ⟨r, a2, c2, f1, k1.then_ g1 f2, g1.trans k1.size f3⟩
end

theorem new_net (w : World) : Calls Try.prog 8 #[] w fun e w' => e = .returned (.pointer (some ⟨w.heap.size, 0, none⟩)) ∧
    NetAt w' w.heap.size w.heap.size none none 0 none 0 [] (fun _ _ => false) ∧ Below w.heap.size w w' := by
  go_enter Try.func8, Try.ntmps8
  go_wp2
  go_ret
  exact ⟨rfl, ⟨Blk.new _ _ _, .inl ⟨rfl, rfl, rfl⟩, .inl ⟨rfl, rfl⟩, Nat.le_refl _⟩, (Below.refl _ _).alloc (Nat.le_refl _) _⟩

def ListOut (w : World) (B g : Nat) (lp : Option Nat) (a : Option Addr) (mp : Option Nat) (N : Nat) (xs : List Pk) (C : Int → Int → Bool) (e : Ending) (w' : World) : Prop :=
  ∃ r a' c', e = .returned (.pointer (some ⟨r, 0, none⟩)) ∧ NetAt w' B g (some r) a' c' mp N xs C ∧ Keeps (netF g lp a mp) w w' ∧ Grows w (netF g lp a mp) (netF g (some r) a' mp)

section
variable {w : World} {B g N : Nat} {lp mp : Option Nat} {a : Option Addr} {c : Nat} {xs : List Pk} {C : Int → Int → Bool}
theorem list_some {r : Nat} (h : NetAt w B g (some r) a c mp N xs C) :
    Calls Try.prog 29 #[.pointer (some ⟨g, 0, none⟩)] w fun e w' => e = .returned (.pointer (some ⟨r, 0, none⟩)) ∧ w = w' := by
  have c0 : w.cell? ⟨g, 0, none⟩ = some (.pointer (some ⟨r, 0, none⟩)) := h.blk.cell 0
  go_enter Try.func29, Try.ntmps29
  go_wp2
  go_ret
  exact ⟨rfl, rfl⟩
theorem list_any (h : NetAt w B g lp a c mp N xs C) :
    Calls Try.prog 29 #[.pointer (some ⟨g, 0, none⟩)] w (ListOut w B g lp a mp N xs C) := by
  cases lp with
  | some r => exact (list_some h).mono fun e w' ⟨h1, h2⟩ => ⟨r, a, c, h1, h2 ▸ h, h2 ▸ Keeps.refl _ _, Grows.refl _ _⟩
  | none =>
    have c0 : w.cell? ⟨g, 0, none⟩ = some (.pointer none) := h.blk.cell 0
    have hr : a = none ∧ xs = [] := by
      rcases h.ring with ⟨_, h1, h2⟩ | ⟨r, h0, _⟩
      · exact ⟨h1, h2⟩
      · cases h0
    obtain ⟨rfl, rfl⟩ := hr
    have H := Lib.hid h
    clear h
    have fin : ∀ w1 : World, RingAtN val 3 TR TP w1 w.heap.size w.heap.size (roomOf 900) none 0 [] → Keeps (fun _ => False) w w1 →
        NetAt (w1.setCell ⟨g, 0, none⟩ (.pointer (some ⟨w.heap.size, 0, none⟩))) B g (some w.heap.size) none 0 mp N [] C ∧ Keeps (netF g none none mp) w (w1.setCell ⟨g, 0, none⟩ (.pointer (some ⟨w.heap.size, 0, none⟩))) ∧
          w1.cell? ⟨g, 0, none⟩ = some (.pointer none) ∧ w1.frozen? ⟨g, 0, none⟩ = false := by
      intro w1 hR hK
      have h1 := H.out.keeps hK (fun _ _ h => h)
      have hlt := H.out.blk.lt
      have hS : Keeps (only g) w1 (w1.setCell ⟨g, 0, none⟩ (.pointer (some ⟨w.heap.size, 0, none⟩))) := keep1 w1 g 0 _
      refine ⟨⟨?_, ?_, ?_, h1.ge⟩, ?_, h1.blk.cell 0, h1.blk.frozen 0⟩
      · exact h1.blk.set_ 0 _
      · refine .inr ⟨_, rfl, ((hR.base_ H.out.base).keeps hS ?_)⟩
        intro k hk hs
        rcases hk with rfl | hk
        · have : w.heap.size = g := hs; omega
        · simp [Value.ownBlock] at hk
      · refine h1.cuts.keeps hS (fun b hb hs => ?_)
        rcases h1.cuts with ⟨h0, _⟩ | ⟨b', n, h0, _, _, hc⟩
        · rw [h0] at hb; cases hb
        · rw [h0] at hb; injection hb with hb; subst hb; exact hc.blk h1.blk hs
      · exact (hK.mono (fun _ _ h => h.elim)).setCell (fun _ => .inl rfl) _
    go_enter Try.func29, Try.ntmps29
    go_wp2_with (go_at_call 41; refine (new_any 900 _).mono ?_; rintro e w1 ⟨rfl, hR, hK⟩; have F := Lib.hid (fin w1 hR hK); have f1 := F.out.2.2.1; have f2 := F.out.2.2.2; clear hR hK)
    go_ret
    refine ⟨w.heap.size, none, 0, rfl, F.out.1, F.out.2.1, fun k hk => ?_⟩
    rcases hk with hk | hk | hk | hk
    · exact .inl (.inl hk)
    · injection hk with hk; exact .inr (by omega)
    · simp [Value.ownBlock] at hk
    · exact .inl (.inr (.inr (.inr hk)))
theorem ends_any (x y : Int) (w : World) : Calls Try.prog 30 #[.int .i64 x, .int .i64 y] w fun e w' => e = .returned (pairV (min x y) (max x y)) ∧ Below w.heap.size w w' := by
  go_enter Try.func30, Try.ntmps30
  go_wp2
  all_goals exact bodyPost_ret (v := pairV (min x y) (max x y)) (by simp [results, Try.results30, go_sem]; omega) rfl ⟨rfl, (Below.refl _ _).alloc (Nat.le_refl _) _⟩
def inB (xs : List Pk) (k : Int) : Bool := decide (0 ≤ k ∧ k < (xs.length : Int))
def getB (xs : List Pk) (k : Int) : Pk := if inB xs k = true then xs.getD k.toNat pk0 else pk0
theorem ring_peek {r most : Nat} (h : RingAtN val 3 TR TP w B r most a c xs) (k : Int) :
    Calls Try.prog 40 #[.pointer (some ⟨r, 0, none⟩), .int .i64 k] w fun e w' => e = .returned (.tuple #[agg (getB xs k), .bool (inB xs k)]) ∧ Below w.heap.size w w' := by
  by_cases hk : 0 ≤ k ∧ k < (xs.length : Int)
  · have e1 : inB xs k = true := by unfold inB; exact decide_eq_true hk
    have e2 : getB xs k = xs.getD k.toNat pk0 := by unfold getB; rw [if_pos e1]
    rw [e1, e2]
    exact peek_in h k hk.1 hk.2
  · have e1 : inB xs k = false := by unfold inB; exact decide_eq_false hk
    have e2 : getB xs k = pk0 := by unfold getB; rw [e1]; rfl
    rw [e1, e2]
    exact peek_out h k (by omega)
/-- A call in whose frame a result lies in memory, or an argument: block X = w.heap.size is none of the net's. -/
theorem RingedOut.box {o : Obj} {ys : List Pk} {w2 : World} (h : NetAt w B g lp a c mp N xs C) (ho : RingedOut (w.alloc o) B g lp a mp N ys C w2) :
    (∀ t cs, o = .cells cs t (0, 0) → Blk w2 w.heap.size t cs) ∧ ∀ w3, Keeps (only w.heap.size) w2 w3 → RingedOut w B g lp a mp N ys C w3 := by
  obtain ⟨r, a', c', h1, h2, h3⟩ := ho
  have hnot : ¬ netF g lp a mp w.heap.size := fun hk => by have := h.lt _ hk; omega
  have hnot' : ∀ k, netF g (some r) a' mp k → k ≠ w.heap.size := fun k hk e => by
    rcases h3 k hk with h4 | h4
    · exact hnot (e ▸ h4)
    · simp at h4; omega
  refine ⟨fun t cs ho => ?_, fun w3 hk => ⟨r, a', c', h1.keeps hk (fun k h4 h5 => hnot' k h4 h5), ?_, fun k hk => ?_⟩⟩
  · subst ho
    exact (Blk.new w t cs).keeps h2 hnot
  · refine Keeps.trans (((Keeps.refl (netF g lp a mp) w).alloc o).trans h2 (fun _ _ h => h)) hk (fun i hi hs => ?_)
    have : i = w.heap.size := hs
    omega
  · rcases h3 k hk with h4 | h4
    · exact .inl h4
    · simp at h4; exact .inr (by omega)
theorem keep3 (w : World) (X : Nat) (u v z : Value) : Keeps (only X) w (((w.setCell ⟨X, 0, none⟩ u).setCell ⟨X, 1, none⟩ v).setCell ⟨X, 2, none⟩ z) := ((keep1 w X 0 u).cell_ 1 v).cell_ 2 z
abbrev box0 : Obj := .cells #[.int .i64 0, .int .i64 0, .string (ByteArray.mk #[])] 28
theorem peek_net (h : NetAt w B g lp a c mp N xs C) (k : Int) :
    Calls Try.prog 27 #[.pointer (some ⟨g, 0, none⟩), .int .i64 k] w fun e w' => e = .returned (.tuple #[agg (getB xs k), .bool (inB xs k)]) ∧ RingedOut w B g lp a mp N xs C w' := by
  have hl := list_any (h.alloc box0)
  have hx := fun w2 (ho : RingedOut (w.alloc box0) B g lp a mp N xs C w2) => RingedOut.box h ho
  have HX := Lib.hid hx
  clear hx
  go_enter Try.func27, Try.ntmps27
  go_wp2_with (go_at_call 29; refine hl.mono ?_; rintro e w1 ⟨r, a1, c1, rfl, h1, k1, g1⟩)
  have kp := ring_peek (ring_of h1) k
  have R1 := Lib.hid (show RingedOut (w.alloc box0) B g lp a mp N xs C w1 from ⟨r, a1, c1, h1, k1, g1⟩)
  clear h1 k1 g1 hl
  go_wp2_with (go_at_call 40; refine kp.mono ?_; rintro e w2 ⟨rfl, hb2⟩; have R2 := HX.out _ (R1.out.then_ hb2); have b2 := R2.1 _ _ rfl; have c0 := b2.cell 0; have c1 := b2.cell 1; have c2 := b2.cell 2; have f0 := b2.frozen 0; have f1 := b2.frozen 1; have f2 := b2.frozen 2; have R3 := Lib.hid R2.2; clear R2 b2 hb2)
  exact bodyPost_ret (v := .tuple #[agg (getB xs k), .bool (inB xs k)]) (by simp [results, Try.results27, go_sem, c0, c1, c2]) rfl ⟨rfl, R3.out _ (keep3 _ _ _ _ _)⟩
end
end Go.Proofs.Ytanhdcffbdhkcaa.NT
