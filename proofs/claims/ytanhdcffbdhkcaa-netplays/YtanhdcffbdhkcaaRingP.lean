/- The ring of datagrams: what each call of it does. No condition. -/
import Derived.Test.YtanhdcffbdhkcaaRingDefN
import Derived.Test.YtanhdcffbdhkcaaAppend
import Derived.Test.YtanhdcffbdhkcaaChecked
import Derived.Deep.RegionLaw
import Derived.Deep.QuietTactic
import Derived.BigQuiet
import Derived.WalkSpells
import Derived.WalkLawsBesides
import Derived.Handy
import Derived.Outline
import Derived.StillTailTactics
namespace Go.Proofs.Ytanhdcffbdhkcaa.RP
set_option maxRecDepth 100000
open Go.RowKit
set_option linter.unusedVariables false

abbrev T : TypeId := 71
abbrev E : TypeId := 28
/-- A datagram: from, to, data. -/
structure Pk where
  f : Int
  t : Int
  d : ByteArray
abbrev val : Pk → List Value := fun p => [.int .i64 p.f, .int .i64 p.t, .string p.d]
abbrev agg (p : Pk) : Value := .agg #[.int .i64 p.f, .int .i64 p.t, .string p.d]
def pk0 : Pk := ⟨0, 0, ByteArray.empty⟩
theorem val_len : ∀ x, (val x).length = 3 := fun _ => rfl

theorem len_any {w : World} {B g most : Nat} {a : Option Addr} {c : Nat} {xs : List Pk} (h : RingAtN val 3 71 28 w B g most a c xs) :
    Calls Try.prog 35 #[.pointer (some ⟨g, 0, none⟩)] w fun e w' => e = .returned (.int .i64 (xs.length : Int)) ∧ w = w' := by
  have h0 := h.cell0
  go_enter Try.func35, Try.ntmps35
  go_wp2
  go_ret
  exact ⟨rfl, rfl⟩

theorem len_is {w : World} {B g most : Nat} {a : Option Addr} {c : Nat} {xs : List Pk} (h : RingAtN val 3 71 28 w B g most a c xs) (L : Int) (hL : (xs.length : Int) = L) :
    Calls Try.prog 35 #[.pointer (some ⟨g, 0, none⟩)] w fun e w' => e = .returned (.int .i64 L) ∧ w = w' := hL ▸ len_any h

theorem room_any {w : World} {B g most : Nat} {a : Option Addr} {c : Nat} {xs : List Pk} (h : RingAtN val 3 71 28 w B g most a c xs) :
    Calls Try.prog 43 #[.pointer (some ⟨g, 0, none⟩)] w fun e w' => e = .returned (.int .i64 ((most : Int) - (xs.length : Int))) ∧ ∃ m, w' = w.drewN m := by
  have h0 := h.cell0
  have h1 := h.cell1
  have hle := h.le
  have hlem := h.lem
  go_enter Try.func43, Try.ntmps43
  go_wp2
  go_quiet (fail)
  go_wp2
  go_ret
  exact ⟨rfl, _, rfl⟩

theorem room_is {w : World} {B g most : Nat} {a : Option Addr} {c : Nat} {xs : List Pk} (h : RingAtN val 3 71 28 w B g most a c xs) (L : Int) (hL : (most : Int) - (xs.length : Int) = L) :
    Calls Try.prog 43 #[.pointer (some ⟨g, 0, none⟩)] w fun e w' => e = .returned (.int .i64 L) ∧ ∃ m, w' = w.drewN m := hL ▸ room_any h

theorem infoE : (Try.prog.info? 28).map (fun i => (i.zero, i.size, i.bytes)) = some (some (agg pk0), 3, 32) := by kernel_rfl

theorem one_val (xs : List Pk) : ∀ u ∈ xs.flatMap val, u.oneCell' = true := by
  intro u hu
  obtain ⟨z, _, hz⟩ := List.mem_flatMap.1 hu
  simp at hz
  rcases hz with rfl | rfl | rfl <;> rfl

theorem push_none {w : World} {B g most : Nat} {a : Option Addr} {c : Nat} {xs : List Pk} (h : RingAtN val 3 71 28 w B g most a c xs)
    (A : Option Addr) (m C : Nat) (hm : m ≤ maxLen) (h0 : min m (most - xs.length) = 0) :
    Calls Try.prog 32 #[.pointer (some ⟨g, 0, none⟩), .slice A m C] w fun e w' => e = .returned (.int .i64 0) ∧ ∃ n, w' = w.drewN n := by
  have hle := h.le
  have hlem := h.lem
  unfold maxLen at hm
  by_cases hx : (most : Int) - (xs.length : Int) < (m : Int)
  · have hz : (most : Int) - (xs.length : Int) ≤ 0 := by omega
    have hz' : ¬ (0 : Int) < (most : Int) - (xs.length : Int) := by omega
    go_enter Try.func32, Try.ntmps32
    go_wp2_with (go_at_call 43; refine (room_any h).mono ?_; rintro e w' ⟨rfl, n, rfl⟩)
    go_ret
    exact ⟨ret_int (by omega), _, rfl⟩
  · have hz : (m : Int) ≤ 0 := by omega
    have hz' : ¬ (0 : Int) < (m : Int) := by omega
    go_enter Try.func32, Try.ntmps32
    go_wp2_with (go_at_call 43; refine (room_any h).mono ?_; rintro e w' ⟨rfl, n, rfl⟩)
    go_ret
    exact ⟨ret_int (by omega), _, rfl⟩

theorem push_some {w : World} {B g most : Nat} {a : Option Addr} {c : Nat} {xs : List Pk} (h : RingAtN val 3 71 28 w B g most a c xs)
    (A : Option Addr) (m C : Nat) (hm : m ≤ maxLen) (hC : m ≤ C) (ys : List Pk) (hl : Lies w 3 A m (ys.flatMap val)) (h0 : 0 < min m (most - xs.length)) :
    Calls Try.prog 32 #[.pointer (some ⟨g, 0, none⟩), .slice A m C] w fun e w' => e = .returned (.int .i64 ((min m (most - xs.length) : Nat) : Int)) ∧
      RingOutN val 3 71 28 w B g most a (xs ++ ys.take (min m (most - xs.length))) w' := by
  have hle := h.le
  have hlem := h.lem
  have hly : ys.length = m := by have := hl.1; rw [flat_len val_len] at this; omega
  unfold maxLen at hm
  obtain ⟨k, hk⟩ : ∃ k, k = min m (most - xs.length) := ⟨_, rfl⟩
  rw [← hk] at h0 ⊢
  obtain ⟨i0, hi, hz0, hz1, hz2⟩ := info_parts infoE
  have hlt : Lies w 3 A k ((ys.take k).flatMap val) := by have := hl.take (k := k) (by omega); rwa [flat_take val_len] at this
  have hbase := h.base
  have h00 := h.cell0
  have hown := h.own
  have hlent : (ys.take k).length = k := by rw [List.length_take]; omega
  have fin : ∀ (n : Nat) (a' : Option Addr) (c' : Nat) (w1 : World), w1.ownsRow B 28 3 (.slice a' (xs.length + k) c') (xs.length + k) (xs.flatMap val ++ (ys.take k).flatMap val) → (w.drewN n).drew.grownBy w1 (Value.slice a 0 0).ownBlock →
      ((Value.slice a' 0 0).ownBlock = (Value.slice a 0 0).ownBlock ∨ (Value.slice a' 0 0).ownBlock = some (w.drewN n).drew.heap.size) →
      RingAtN val 3 71 28 (w1.setCell ⟨g, 0, none⟩ (.slice a' (xs.length + k) c')) B g most a' c' (xs ++ ys.take k) ∧ Keeps (ringF g a) w (w1.setCell ⟨g, 0, none⟩ (.slice a' (xs.length + k) c')) ∧ Grows w (ringF g a) (ringF g a') := by
    intro n a' c' w1 ho hg hat
    refine h.put (by decide) (((Keeps.refl _ w).drewN n).drew.grown hg (fun _ hk _ => hk)) (by rw [List.flatMap_append]; exact ho) (by rw [List.length_append, hlent]) (by rw [List.length_append, hlent]; omega) ?_
    intro k' hk'
    rcases hat with hat | hat
    · exact .inl (hat ▸ hk')
    · rw [hat] at hk'; injection hk' with hk'; exact .inr (by rw [← hk']; exact Nat.le_refl _)
  have c0 : ∀ (n : Nat) (w1 : World), (w.drewN n).drew.grownBy w1 (Value.slice a 0 0).ownBlock → w1.cell? ⟨g, 0, none⟩ = some (.slice a xs.length c) ∧ w1.frozen? ⟨g, 0, none⟩ = false := by
    intro n w1 hg
    have hne := own_ne h.own h.blk (show (28 : Nat) ≠ 71 by decide)
    rw [own_blk] at hne
    have hb1 : Blk w1 g 71 #[.slice a xs.length c, .int .i64 (most : Int)] := h.blk.keeps (((Keeps.refl _ w).drewN n).drew.grown hg (fun _ hk _ => hk)) hne
    exact ⟨by rw [hb1.cell]; rfl, hb1.frozen 0⟩
  have hkm : k ≤ m := by omega
  have hbm : xs.length + k ≤ most := by omega
  by_cases hx : (most : Int) - (xs.length : Int) < (m : Int)
  · have hkk : (most : Int) - (xs.length : Int) = (k : Int) := by omega
    have hx' : (k : Int) < (m : Int) := by omega
    have hp : (0 : Int) < (k : Int) := by omega
    have hkC : k ≤ C := by omega
    clear hk
    go_enter Try.func32, Try.ntmps32
    go_wp2_with (go_at_call 43; refine (room_any h).mono ?_; rintro e w' ⟨rfl, n, rfl⟩)
    go_region_law (refine step_append_lie _ rfl (.tmp 17) (.tmp 20) 36 rfl B 28 i0 _ 3 32 Try.underlying36 hi hz0 hz1 hz2 rfl (by decide) a xs.length c (xs.flatMap val) rfl hown A k C ((ys.take k).flatMap val) rfl hlt (one_val _) (by unfold maxLen; omega) (by omega) hbase ?_; intro a' c' w1 ho1 hg1 hat1; have R1 := Lib.hid (fin n a' c' w1 ho1 hg1 hat1); have R2 := (c0 n w1 hg1).1; have R3 := (c0 n w1 hg1).2; clear ho1 hg1 hat1)
    all_goals (go_wp2; go_ret; exact ⟨rfl, a', c', R1.out⟩)
  · obtain rfl : k = m := by omega
    have hp : (0 : Int) < (k : Int) := by omega
    clear hk hkm
    go_enter Try.func32, Try.ntmps32
    go_wp2_with (go_at_call 43; refine (room_any h).mono ?_; rintro e w' ⟨rfl, n, rfl⟩)
    go_region_law (refine step_append_lie _ rfl (.tmp 17) (.tmp 20) 36 rfl B 28 i0 _ 3 32 Try.underlying36 hi hz0 hz1 hz2 rfl (by decide) a xs.length c (xs.flatMap val) rfl hown A k C ((ys.take k).flatMap val) rfl hlt (one_val _) (by unfold maxLen; omega) (by omega) hbase ?_; intro a' c' w1 ho1 hg1 hat1; have R1 := Lib.hid (fin n a' c' w1 ho1 hg1 hat1); have R2 := (c0 n w1 hg1).1; have R3 := (c0 n w1 hg1).2; clear ho1 hg1 hat1)
    all_goals (go_wp2; go_ret; exact ⟨rfl, a', c', R1.out⟩)


theorem peek_in {w : World} {B g most : Nat} {a : Option Addr} {c : Nat} {xs : List Pk} (h : RingAtN val 3 71 28 w B g most a c xs) (z : Int) (h0 : 0 ≤ z) (hz : z < (xs.length : Int)) :
    Calls Try.prog 40 #[.pointer (some ⟨g, 0, none⟩), .int .i64 z] w fun e w' => e = .returned (.tuple #[agg (xs.getD z.toNat pk0), .bool true]) ∧ Below w.heap.size w w' := by
  have hlt : z.toNat < xs.length := by omega
  obtain ⟨b, rfl, hcc⟩ := h.cellAt val_len hlt
  have e0 : xs[z.toNat] = xs.getD z.toNat pk0 := by simp [List.getElem?_eq_getElem hlt]
  rw [e0] at hcc
  generalize xs.getD z.toNat pk0 = y at hcc ⊢
  have hc0 := (hcc 0 _ rfl).1
  have hc1 := (hcc 1 _ rfl).1
  have hc2 := (hcc 2 _ rfl).1
  rw [Nat.add_zero] at hc0
  have lt0 : b < w.heap.size := World.block_lt_of_cell? w _ hc0
  have lt1 : g < w.heap.size := h.blk.lt
  have a0 : ∀ o, (w.alloc o).cell? ⟨b, z.toNat * 3, none⟩ = some (.int .i64 y.f) := fun o => (World.cell?_alloc_lt w o _ lt0).trans hc0
  have a1 : ∀ o, (w.alloc o).cell? ⟨b, z.toNat * 3 + 1, none⟩ = some (.int .i64 y.t) := fun o => (World.cell?_alloc_lt w o _ lt0).trans hc1
  have a2 : ∀ o, (w.alloc o).cell? ⟨b, z.toNat * 3 + 2, none⟩ = some (.string y.d) := fun o => (World.cell?_alloc_lt w o _ lt0).trans hc2
  have a3 : ∀ o, (w.alloc o).cell? ⟨g, 0, none⟩ = some (.slice (some ⟨b, 0, none⟩) xs.length c) := fun o => (World.cell?_alloc_lt w o _ lt1).trans h.cell0
  clear hcc
  have hle := h.le
  have hlem := h.lem
  have hcl := h.capLe
  have h00 := h.cell0
  have hz' : ¬ (z < 0) := by omega
  have hz'' : ¬ ((xs.length : Int) ≤ z) := by omega
  clear e0
  go_enter Try.func40, Try.ntmps40
  go_wp2_with (go_at_call 35; refine (len_any (h.alloc _)).mono ?_; rintro e w' ⟨rfl, rfl⟩)
  exact bodyPost_ret (v := .tuple #[agg y, .bool true]) (by simp [results, Try.results40, go_sem]) rfl ⟨rfl, (Below.refl _ _).alloc (Nat.le_refl _) _⟩

theorem peek_out {w : World} {B g most : Nat} {a : Option Addr} {c : Nat} {xs : List Pk} (h : RingAtN val 3 71 28 w B g most a c xs) (z : Int) (hz : z < 0 ∨ (xs.length : Int) ≤ z) :
    Calls Try.prog 40 #[.pointer (some ⟨g, 0, none⟩), .int .i64 z] w fun e w' => e = .returned (.tuple #[agg pk0, .bool false]) ∧ Below w.heap.size w w' := by
  by_cases h0 : z < 0
  · go_enter Try.func40, Try.ntmps40
    go_wp2_with (go_at_call 35; refine (len_any (h.alloc _)).mono ?_; rintro e w' ⟨rfl, rfl⟩)
    exact bodyPost_ret (v := .tuple #[agg pk0, .bool false]) (by simp [results, Try.results40, go_sem]; exact ⟨rfl, rfl, rfl⟩) rfl ⟨rfl, ((Below.refl _ _).alloc (Nat.le_refl _) _).alloc (by simp) _⟩
  · have h1 : (xs.length : Int) ≤ z := by omega
    clear hz
    go_enter Try.func40, Try.ntmps40
    go_wp2_with (go_at_call 35; refine (len_any (h.alloc _)).mono ?_; rintro e w' ⟨rfl, rfl⟩)
    exact bodyPost_ret (v := .tuple #[agg pk0, .bool false]) (by simp [results, Try.results40, go_sem]; exact ⟨rfl, rfl, rfl⟩) rfl ⟨rfl, ((Below.refl _ _).alloc (Nat.le_refl _) _).alloc (by simp) _⟩

theorem set_out {w : World} {B g most : Nat} {a : Option Addr} {c : Nat} {xs : List Pk} (h : RingAtN val 3 71 28 w B g most a c xs) (z : Int) (v : Pk) (hz : z < 0 ∨ (xs.length : Int) ≤ z) :
    Calls Try.prog 33 #[.pointer (some ⟨g, 0, none⟩), .int .i64 z, agg v] w fun e w' => e = .returned (.bool false) ∧ Below w.heap.size w w' := by
  by_cases h0 : z < 0
  · go_enter Try.func33, Try.ntmps33
    go_wp2_with (go_at_call 35; refine (len_any (h.alloc _)).mono ?_; rintro e w' ⟨rfl, rfl⟩)
    go_ret
    exact ⟨rfl, (Below.refl _ _).alloc (Nat.le_refl _) _⟩
  · have h1 : (xs.length : Int) ≤ z := by omega
    clear hz
    go_enter Try.func33, Try.ntmps33
    go_wp2_with (go_at_call 35; refine (len_any (h.alloc _)).mono ?_; rintro e w' ⟨rfl, rfl⟩)
    go_ret
    exact ⟨rfl, (Below.refl _ _).alloc (Nat.le_refl _) _⟩

theorem flat_set (xs : List Pk) (k : Nat) (x : Pk) (hk : k < xs.length) : (xs.set k x).flatMap val = (((xs.flatMap val).set (k * 3) (.int .i64 x.f)).set (k * 3 + 1) (.int .i64 x.t)).set (k * 3 + 2) (.string x.d) := by
  induction xs generalizing k with
  | nil => simp at hk
  | cons y ys ih =>
    cases k with
    | zero => rfl
    | succ k =>
      rw [List.set_cons_succ, List.flatMap_cons, ih k (by simpa using hk), List.flatMap_cons]
      rw [show (k + 1) * 3 = (k * 3) + 1 + 1 + 1 by omega, show k * 3 + 1 + 1 + 1 + 1 = (k * 3 + 1) + 1 + 1 + 1 by omega, show k * 3 + 1 + 1 + 1 + 2 = (k * 3 + 2) + 1 + 1 + 1 by omega]
      rfl
theorem set3 {w : World} {B g most b : Nat} {c : Nat} {xs : List Pk} {T e : TypeId} (h : RingAtN val 3 T e w B g most (some ⟨b, 0, none⟩) c xs) (hT : e ≠ T) {k : Nat} (hk : k < xs.length) (x : Pk) :
    RingAtN val 3 T e (((w.setCell ⟨b, k * 3, none⟩ (.int .i64 x.f)).setCell ⟨b, k * 3 + 1, none⟩ (.int .i64 x.t)).setCell ⟨b, k * 3 + 2, none⟩ (.string x.d)) B g most (some ⟨b, 0, none⟩) c (xs.set k x) ∧
      Keeps (ringF g (some ⟨b, 0, none⟩)) w (((w.setCell ⟨b, k * 3, none⟩ (.int .i64 x.f)).setCell ⟨b, k * 3 + 1, none⟩ (.int .i64 x.t)).setCell ⟨b, k * 3 + 2, none⟩ (.string x.d)) := by
  have hne := own_ne h.own h.blk hT
  have hbg : g ≠ b := fun e => hne (by simp [Value.ownBlock, e])
  have hF : ringF g (some ⟨b, 0, none⟩) b := Or.inr (by simp [Value.ownBlock])
  refine ⟨⟨?_, ?_, h.ge, by simpa using h.le, h.lem⟩, ?_⟩
  · have := ((h.blk.far (p := ⟨b, k * 3, none⟩) hbg (.int .i64 x.f)).far (p := ⟨b, k * 3 + 1, none⟩) hbg (.int .i64 x.t)).far (p := ⟨b, k * 3 + 2, none⟩) hbg (.string x.d)
    simpa using this
  · have h0 := (h.own.stored (k * 3) (.int .i64 x.f)).1
    have h1 := (h0.stored (k * 3 + 1) (.int .i64 x.t)).1
    have h2 := (h1.stored (k * 3 + 2) (.string x.d)).1
    rw [flat_set xs k x hk, List.length_set]
    exact h2
  · exact (((Keeps.refl _ w).setCell (p := ⟨b, k * 3, none⟩) (fun _ => hF) _).setCell (p := ⟨b, k * 3 + 1, none⟩) (fun _ => hF) _).setCell (p := ⟨b, k * 3 + 2, none⟩) (fun _ => hF) _
theorem set_in {w : World} {B g most : Nat} {a : Option Addr} {c : Nat} {xs : List Pk} (h : RingAtN val 3 71 28 w B g most a c xs) (z : Int) (v : Pk) (h0 : 0 ≤ z) (hz : z < (xs.length : Int)) :
    Calls Try.prog 33 #[.pointer (some ⟨g, 0, none⟩), .int .i64 z, agg v] w fun e w' => e = .returned (.bool true) ∧ RingAtN val 3 71 28 w' B g most a c (xs.set z.toNat v) ∧ Keeps (ringF g a) w w' := by
  have hlt : z.toNat < xs.length := by omega
  obtain ⟨b, rfl, -⟩ := h.cellAt val_len hlt
  obtain ⟨W, hW⟩ : ∃ W, w.alloc (.cells #[.int .i64 v.f, .int .i64 v.t, .string v.d] 28) = W := ⟨_, rfl⟩
  have hKW : Keeps (ringF g (some ⟨b, 0, none⟩)) w W := by rw [← hW]; exact (Keeps.refl _ w).alloc _
  have h' : RingAtN val 3 71 28 W B g most (some ⟨b, 0, none⟩) c xs := by rw [← hW]; exact h.alloc _
  have R := Lib.hid (set3 h' (by decide) hlt v)
  have HK := Lib.hid hKW
  have hc3 : W.cell? ⟨w.heap.size, 0, none⟩ = some (.int .i64 v.f) := by rw [← hW]; exact (Blk.new w _ _).cell 0
  have hc4 : W.cell? ⟨w.heap.size, 1, none⟩ = some (.int .i64 v.t) := by rw [← hW]; exact (Blk.new w _ _).cell 1
  have hc5 : W.cell? ⟨w.heap.size, 2, none⟩ = some (.string v.d) := by rw [← hW]; exact (Blk.new w _ _).cell 2
  obtain ⟨b', hbb, hcc⟩ := h'.cellAt val_len hlt
  injection hbb with hbb
  injection hbb with hbb
  subst hbb
  generalize xs[z.toNat] = y at hcc
  have hc0 := (hcc 0 _ rfl).1
  have hc1 := (hcc 1 _ rfl).1
  have hc2 := (hcc 2 _ rfl).1
  have hf0 := (hcc 0 _ rfl).2
  have hf1 := (hcc 1 _ rfl).2
  have hf2 := (hcc 2 _ rfl).2
  rw [Nat.add_zero] at hc0 hf0
  clear hcc
  have hle := h.le
  have hlem := h.lem
  have hcl := h.capLe
  have h00 := h'.cell0
  have hz' : ¬ (z < 0) := by omega
  have hz'' : ¬ ((xs.length : Int) ≤ z) := by omega
  have hp : .agg #[.int .i64 v.f, .int .i64 v.t, .string v.d] = agg v := rfl
  clear hp
  go_enter Try.func33, Try.ntmps33
  go_wp2_with (go_at_call 35; (try rw [hW]); refine (len_any h').mono ?_; rintro e w' ⟨rfl, rfl⟩)
  go_still_tail 7, (by kernel_rfl)
  go_wp2_with fail
  go_ret
  exact ⟨rfl, R.out.1.drew, (HK.out.trans R.out.2 (fun _ _ h => h)).drew⟩

theorem drop_none {w : World} {B g most : Nat} {a : Option Addr} {c : Nat} {xs : List Pk} (h : RingAtN val 3 71 28 w B g most a c xs) (z : Int) (hz : z ≤ 0 ∨ xs.length = 0) :
    Calls Try.prog 45 #[.pointer (some ⟨g, 0, none⟩), .int .i64 z] w fun e w' => e = .returned (.int .i64 0) ∧ w = w' := by
  by_cases h0 : z < 0
  · have h2 : ¬ (xs.length : Int) < 0 := by omega
    go_enter Try.func45, Try.ntmps45
    go_wp2_with (go_at_call 35; refine (len_any h).mono ?_; rintro e w' ⟨rfl, rfl⟩)
    go_ret
    exact ⟨rfl, rfl⟩
  · by_cases h1 : (xs.length : Int) < z
    · have h2 : ¬ (0 : Int) < xs.length := by omega
      clear hz
      go_enter Try.func45, Try.ntmps45
      go_wp2_with (go_at_call 35; refine (len_any h).mono ?_; rintro e w' ⟨rfl, rfl⟩)
      go_ret
      exact ⟨ret_int (by omega), rfl⟩
    · have h2 : ¬ (0 : Int) < z := by omega
      clear hz
      go_enter Try.func45, Try.ntmps45
      go_wp2_with (go_at_call 35; refine (len_any h).mono ?_; rintro e w' ⟨rfl, rfl⟩)
      go_ret
      exact ⟨ret_int (by omega), rfl⟩

theorem drop_some {w : World} {B g most : Nat} {a : Option Addr} {c : Nat} {xs : List Pk} (h : RingAtN val 3 71 28 w B g most a c xs) (z : Int) (k : Nat) (hk : k = min z.toNat xs.length) (h0 : 0 < k) :
    Calls Try.prog 45 #[.pointer (some ⟨g, 0, none⟩), .int .i64 z] w fun e w' => e = .returned (.int .i64 (k : Int)) ∧
      RingOutN val 3 71 28 w B g most a (xs.drop k) w' := by
  have hle := h.le
  have hlem := h.lem
  have hcl := h.capLe
  have hcm := h.capMax
  unfold maxLen at hcm
  obtain ⟨i0, hi, hi0, hi1, hi2⟩ := info_parts infoE
  obtain ⟨b, rfl, -⟩ := h.cellAt val_len (k := 0) (by omega)
  have h00 := h.cell0
  have hlies := h.lies
  have hbase := h.base
  have hkx : k ≤ xs.length := by omega
  have hzk : k = z.toNat ∧ (0 : Int) < z ∨ k = xs.length ∧ (xs.length : Int) < z := by omega
  clear hk
  have hfr := h.free 0
  have hlc := hlies.cutN hkx hcl
  have hone : ∀ u ∈ (xs.flatMap val).drop (k * 3), u.oneCell' = true := fun u hu => one_val xs u (List.mem_of_mem_drop hu)
  have fin : ∀ (a' : Option Addr) (c' : Nat) (w1 : World), w1.ownsRow w.heap.size 28 3 (.slice a' (0 + (xs.length - k)) c') (0 + (xs.length - k)) ([] ++ (xs.flatMap val).drop (k * 3)) → w.grownBy w1 (Value.slice none 0 0).ownBlock →
      RingAtN val 3 71 28 (w1.setCell ⟨g, 0, none⟩ (.slice a' (xs.length - k) c')) B g most a' c' (xs.drop k) ∧ Keeps (ringF g (some ⟨b, 0, none⟩)) w (w1.setCell ⟨g, 0, none⟩ (.slice a' (xs.length - k) c')) ∧ Grows w (ringF g (some ⟨b, 0, none⟩)) (ringF g a') := by
    intro a' c' w1 ho hg
    simp only [Nat.zero_add, List.nil_append, flat_drop val_len] at ho
    have hge := ho.lt
    refine h.put (by decide) ((Keeps.refl _ w).grown hg (fun k hk => by simp [Value.ownBlock] at hk)) (own_base ho (fun k hk => Nat.le_trans hbase (hge k hk).1)) (by rw [List.length_drop]) (by rw [List.length_drop]; omega) ?_
    intro k' hk'
    exact .inr (hge k' ((own_blk _ _ _).trans hk')).1
  have c0 : ∀ (w1 : World), w.grownBy w1 (Value.slice none 0 0).ownBlock → w1.cell? ⟨g, 0, none⟩ = some (.slice (some ⟨b, 0, none⟩) xs.length c) ∧ w1.frozen? ⟨g, 0, none⟩ = false := by
    intro w1 hg
    have hb1 := h.blk.grown hg (by simp [Value.ownBlock])
    exact ⟨by rw [hb1.cell]; rfl, hb1.frozen 0⟩
  rcases hzk with ⟨rfl, hz⟩ | ⟨rfl, hz⟩
  · have hx : ¬ (xs.length : Int) < z := by omega
    have hz' : ¬ z < 0 := by omega
    go_enter Try.func45, Try.ntmps45
    go_wp2_with (first | (go_at_call 35; refine (len_any h).mono ?_; rintro e w' ⟨rfl, rfl⟩) | (at_builtin; go_loud (refine wpList_append_lie _ rfl _ (.tmp 18) 36 rfl w.heap.size 28 i0 _ 3 32 Try.underlying36 hi hi0 hi1 hi2 rfl (by decide) none 0 0 [] rfl (World.ownsRow_nil _ _ _ _) _ (xs.length - z.toNat) (c - z.toNat) _ rfl hlc hone (by unfold maxLen; omega) (by omega) (Nat.le_refl _) ?_); intro a' c' w1 ho hg hat; have R1 := Lib.hid (fin a' c' w1 ho hg); have R2 := (c0 w1 hg).1; have R3 := (c0 w1 hg).2; clear ho hg hat))
    all_goals (go_ret; exact ⟨ret_int (by omega), a', c', R1.out⟩)
  · have hx : (0 : Int) < (xs.length : Int) := by omega
    have hz' : ¬ z < 0 := by omega
    rw [Nat.sub_self] at hlc
    go_enter Try.func45, Try.ntmps45
    go_wp2_with (first | (go_at_call 35; refine (len_any h).mono ?_; rintro e w' ⟨rfl, rfl⟩) | (at_builtin; go_loud (refine wpList_append_lie _ rfl _ (.tmp 18) 36 rfl w.heap.size 28 i0 _ 3 32 Try.underlying36 hi hi0 hi1 hi2 rfl (by decide) none 0 0 [] rfl (World.ownsRow_nil _ _ _ _) _ 0 (c - xs.length) _ rfl hlc hone (by unfold maxLen; omega) (by omega) (Nat.le_refl _) ?_); intro a' c' w1 ho hg hat; have R1 := Lib.hid (fin a' c' w1 (by rw [Nat.sub_self]; exact ho) hg); have R2 := (c0 w1 hg).1; have R3 := (c0 w1 hg).2; clear ho hg hat))
    all_goals (go_ret; exact ⟨rfl, a', c', by have := R1.out; simpa using this⟩)

theorem list_any {w : World} {B g most : Nat} {a : Option Addr} {c : Nat} {xs : List Pk} (h : RingAtN val 3 71 28 w B g most a c xs) :
    Calls Try.prog 44 #[.pointer (some ⟨g, 0, none⟩)] w (NewSlice 28 3 w xs.length (xs.flatMap val)) := by
  have hle := h.le
  have hlem := h.lem
  obtain ⟨i0, hi, hz0, hz1, hz2⟩ := info_parts infoE
  have h00 := h.cell0
  have hlies := h.lies
  go_enter Try.func44, Try.ntmps44
  go_wp2_with (at_builtin; refine wpList_append_lie _ rfl _ _ 36 rfl w.heap.size 28 i0 _ 3 32 Try.underlying36 hi hz0 hz1 hz2 rfl (by decide) none 0 0 [] rfl (World.ownsRow_nil _ _ _ _) a xs.length c (xs.flatMap val) rfl hlies (one_val xs) (by unfold maxLen; omega) (by omega) (Nat.le_refl _) ?_; intro a' c' w1 hown hg hat)
  go_ret
  refine ⟨a', c', by simp, by simpa using hown, (Keeps.refl _ w).grown hg (fun k hk => by simp [Value.ownBlock] at hk)⟩


theorem drop_any {w : World} {B g most : Nat} {a : Option Addr} {c : Nat} {xs : List Pk} (h : RingAtN val 3 71 28 w B g most a c xs) (z : Int) :
    Calls Try.prog 45 #[.pointer (some ⟨g, 0, none⟩), .int .i64 z] w fun e w' => e = .returned (.int .i64 ((min z.toNat xs.length : Nat) : Int)) ∧
      RingOutN val 3 71 28 w B g most a (xs.drop (min z.toNat xs.length)) w' := by
  by_cases h0 : 0 < min z.toNat xs.length
  · exact drop_some h z _ rfl h0
  · refine (drop_none h z (by omega)).mono ?_
    rintro e w' ⟨rfl, rfl⟩
    have h1 : min z.toNat xs.length = 0 := by omega
    rw [h1]
    exact ⟨rfl, a, c, h, Keeps.refl _ _, Grows.refl _ _⟩

theorem push_any {w : World} {B g most : Nat} {a : Option Addr} {c : Nat} {xs : List Pk} (h : RingAtN val 3 71 28 w B g most a c xs)
    (A : Option Addr) (m C : Nat) (hm : m ≤ maxLen) (hC : m ≤ C) (ys : List Pk) (hl : Lies w 3 A m (ys.flatMap val)) :
    Calls Try.prog 32 #[.pointer (some ⟨g, 0, none⟩), .slice A m C] w fun e w' => e = .returned (.int .i64 ((min m (most - xs.length) : Nat) : Int)) ∧
      RingOutN val 3 71 28 w B g most a (xs ++ ys.take (min m (most - xs.length))) w' := by
  by_cases h0 : 0 < min m (most - xs.length)
  · exact push_some h A m C hm hC ys hl h0
  · refine (push_none h A m C hm (by omega)).mono ?_
    rintro e w' ⟨rfl, n, rfl⟩
    have h1 : min m (most - xs.length) = 0 := by omega
    rw [h1]
    exact ⟨rfl, a, c, by simpa using h.drewN n, (Keeps.refl _ _).drewN n, Grows.refl _ _⟩

theorem clear_any {w : World} {B g most : Nat} {a : Option Addr} {c : Nat} {xs : List Pk} (h : RingAtN val 3 71 28 w B g most a c xs) :
    Calls Try.prog 36 #[.pointer (some ⟨g, 0, none⟩)] w fun e w' => e = .returned (.int .i64 (xs.length : Int)) ∧ RingOutN val 3 71 28 w B g most a [] w' := by
  go_enter Try.func36, Try.ntmps36
  go_wp2_with (first | (go_at_call 35; refine (len_any h).mono ?_; rintro e w' ⟨rfl, rfl⟩) | (go_at_call 45; refine (drop_any h _).mono ?_; rintro e w1 ⟨rfl, hr⟩; have R1 := Lib.hid hr; clear hr))
  go_ret
  have := R1.out
  simp only [Int.toNat_natCast, Nat.min_self, List.drop_length] at this ⊢
  exact ⟨rfl, this⟩

def roomOf (z : Int) : Nat := (min (max z 0) 100000).toNat
theorem room_fn (z : Int) (w : World) : Calls Try.prog 46 #[.int .i64 z] w fun e w' => e = .returned (.int .i64 (roomOf z : Int)) ∧ w = w' := by
  by_cases h0 : z < 0
  · go_enter Try.func46, Try.ntmps46
    go_wp2
    go_ret
    exact ⟨ret_int (by unfold roomOf; omega), rfl⟩
  · by_cases h1 : 100000 < z
    · go_enter Try.func46, Try.ntmps46
      go_wp2
      go_ret
      exact ⟨ret_int (by unfold roomOf; omega), rfl⟩
    · go_enter Try.func46, Try.ntmps46
      go_wp2
      go_ret
      exact ⟨ret_int (by unfold roomOf; omega), rfl⟩

theorem new_any (z : Int) (w : World) : Calls Try.prog 41 #[.int .i64 z] w fun e w' => e = .returned (.pointer (some ⟨w.heap.size, 0, none⟩)) ∧
    RingAtN val 3 71 28 w' w.heap.size w.heap.size (roomOf z) none 0 [] ∧ Keeps (fun _ => False) w w' := by
  go_enter Try.func41, Try.ntmps41
  go_wp2_with (go_at_call 46; refine (room_fn z _).mono ?_; rintro e w' ⟨rfl, rfl⟩)
  go_ret
  exact ⟨rfl, ⟨Blk.new _ _ _, World.ownsRow_nil _ _ _ _, Nat.le_refl _, Nat.zero_le _, by unfold roomOf; omega⟩, (Keeps.refl _ _).alloc _⟩
end Go.Proofs.Ytanhdcffbdhkcaa.RP
