/- The ring of whole numbers: what each call of it does. No condition. -/
import Derived.Test.YthnlfgogibjbnaaGreatRingDef
import Derived.Test.YthnlfgogibjbnaaGreatAppend
import Derived.Test.YthnlfgogibjbnaaGreatChecked
import Derived.Deep.RegionLaw
import Derived.Deep.QuietTactic
import Derived.BigQuiet
import Derived.WalkSpells
import Derived.WalkLawsBesides
import Derived.Handy
namespace Go.Proofs.YthnlfgogibjbnaaGreat.RI
set_option maxRecDepth 100000
open Go.RowKit
set_option linter.unusedVariables false

abbrev T : TypeId := 29
abbrev E : TypeId := 3
abbrev val : Int → Value := fun z => .int .i64 z

theorem len_any {w : World} {B g most : Nat} {a : Option Addr} {c : Nat} {xs : List Int} (h : RingAt val 29 3 w B g most a c xs) :
    Calls Tryz.prog 18 #[.pointer (some ⟨g, 0, none⟩)] w fun e w' => e = .returned (.int .i64 (xs.length : Int)) ∧ w = w' := by
  have h0 := h.cell0
  go_enter Tryz.func18, Tryz.ntmps18
  go_wp2
  go_ret
  exact ⟨rfl, rfl⟩

theorem len_is {w : World} {B g most : Nat} {a : Option Addr} {c : Nat} {xs : List Int} (h : RingAt val 29 3 w B g most a c xs) (L : Int) (hL : (xs.length : Int) = L) :
    Calls Tryz.prog 18 #[.pointer (some ⟨g, 0, none⟩)] w fun e w' => e = .returned (.int .i64 L) ∧ w = w' := hL ▸ len_any h

theorem room_any {w : World} {B g most : Nat} {a : Option Addr} {c : Nat} {xs : List Int} (h : RingAt val 29 3 w B g most a c xs) :
    Calls Tryz.prog 19 #[.pointer (some ⟨g, 0, none⟩)] w fun e w' => e = .returned (.int .i64 ((most : Int) - (xs.length : Int))) ∧ ∃ m, w' = w.drewN m := by
  have h0 := h.cell0
  have h1 := h.cell1
  have hle := h.le
  have hlem := h.lem
  go_enter Tryz.func19, Tryz.ntmps19
  go_wp2
  go_quiet (fail)
  go_wp2
  go_ret
  exact ⟨rfl, _, rfl⟩

theorem room_is {w : World} {B g most : Nat} {a : Option Addr} {c : Nat} {xs : List Int} (h : RingAt val 29 3 w B g most a c xs) (L : Int) (hL : (most : Int) - (xs.length : Int) = L) :
    Calls Tryz.prog 19 #[.pointer (some ⟨g, 0, none⟩)] w fun e w' => e = .returned (.int .i64 L) ∧ ∃ m, w' = w.drewN m := hL ▸ room_any h

theorem infoE : (Tryz.prog.info? 3).map (fun i => (i.zero, i.size, i.bytes)) = some (some (.int .i64 0), 1, 8) := by kernel_rfl

theorem one_val (xs : List Int) : ∀ u ∈ xs.map val, u.oneCell' = true := by
  intro u hu
  obtain ⟨z, _, rfl⟩ := List.mem_map.1 hu
  rfl

theorem push_none {w : World} {B g most : Nat} {a : Option Addr} {c : Nat} {xs : List Int} (h : RingAt val 29 3 w B g most a c xs)
    (A : Option Addr) (m C : Nat) (hm : m ≤ maxLen) (h0 : min m (most - xs.length) = 0) :
    Calls Tryz.prog 8 #[.pointer (some ⟨g, 0, none⟩), .slice A m C] w fun e w' => e = .returned (.int .i64 0) ∧ ∃ n, w' = w.drewN n := by
  have hle := h.le
  have hlem := h.lem
  unfold maxLen at hm
  by_cases hx : (most : Int) - (xs.length : Int) < (m : Int)
  · have hz : (most : Int) - (xs.length : Int) ≤ 0 := by omega
    have hz' : ¬ (0 : Int) < (most : Int) - (xs.length : Int) := by omega
    go_enter Tryz.func8, Tryz.ntmps8
    go_wp2_with (go_at_call 19; refine (room_any h).mono ?_; rintro e w' ⟨rfl, n, rfl⟩)
    go_ret
    exact ⟨ret_int (by omega), _, rfl⟩
  · have hz : (m : Int) ≤ 0 := by omega
    have hz' : ¬ (0 : Int) < (m : Int) := by omega
    go_enter Tryz.func8, Tryz.ntmps8
    go_wp2_with (go_at_call 19; refine (room_any h).mono ?_; rintro e w' ⟨rfl, n, rfl⟩)
    go_ret
    exact ⟨ret_int (by omega), _, rfl⟩

theorem push_some {w : World} {B g most : Nat} {a : Option Addr} {c : Nat} {xs : List Int} (h : RingAt val 29 3 w B g most a c xs)
    (A : Option Addr) (m C : Nat) (hm : m ≤ maxLen) (hC : m ≤ C) (ys : List Int) (hl : Lies w 1 A m (ys.map val)) (h0 : 0 < min m (most - xs.length)) :
    Calls Tryz.prog 8 #[.pointer (some ⟨g, 0, none⟩), .slice A m C] w fun e w' => e = .returned (.int .i64 ((min m (most - xs.length) : Nat) : Int)) ∧
      RingOut val 29 3 w B g most a (xs ++ ys.take (min m (most - xs.length))) w' := by
  have hle := h.le
  have hlem := h.lem
  have hly : ys.length = m := by have := hl.1; simpa using this
  unfold maxLen at hm
  obtain ⟨k, hk⟩ : ∃ k, k = min m (most - xs.length) := ⟨_, rfl⟩
  rw [← hk] at h0 ⊢
  obtain ⟨i0, hi, hz0, hz1, hz2⟩ := info_parts infoE
  have hlt : Lies w 1 A k ((ys.take k).map val) := by have := hl.take (k := k) (by omega); simpa [List.map_take] using this
  have hbase := h.base
  have h00 := h.cell0
  have hown := h.own
  have hlent : (ys.take k).length = k := by rw [List.length_take]; omega
  have fin : ∀ (n : Nat) (a' : Option Addr) (c' : Nat) (w1 : World), w1.ownsRow B 3 1 (.slice a' (xs.length + k) c') (xs.length + k) (xs.map val ++ (ys.take k).map val) → (w.drewN n).drew.grownBy w1 (Value.slice a 0 0).ownBlock →
      ((Value.slice a' 0 0).ownBlock = (Value.slice a 0 0).ownBlock ∨ (Value.slice a' 0 0).ownBlock = some (w.drewN n).drew.heap.size) →
      RingAt val 29 3 (w1.setCell ⟨g, 0, none⟩ (.slice a' (xs.length + k) c')) B g most a' c' (xs ++ ys.take k) ∧ Keeps (ringF g a) w (w1.setCell ⟨g, 0, none⟩ (.slice a' (xs.length + k) c')) ∧ Grows w (ringF g a) (ringF g a') := by
    intro n a' c' w1 ho hg hat
    refine h.put (by decide) (((Keeps.refl _ w).drewN n).drew.grown hg (fun _ hk _ => hk)) (by rw [List.map_append]; exact ho) (by rw [List.length_append, hlent]) (by rw [List.length_append, hlent]; omega) ?_
    intro k' hk'
    rcases hat with hat | hat
    · exact .inl (hat ▸ hk')
    · rw [hat] at hk'; injection hk' with hk'; exact .inr (by rw [← hk']; exact Nat.le_refl _)
  have c0 : ∀ (n : Nat) (w1 : World), (w.drewN n).drew.grownBy w1 (Value.slice a 0 0).ownBlock → w1.cell? ⟨g, 0, none⟩ = some (.slice a xs.length c) ∧ w1.frozen? ⟨g, 0, none⟩ = false := by
    intro n w1 hg
    have hne := own_ne h.own h.blk (show (3 : Nat) ≠ 29 by decide)
    rw [own_blk] at hne
    have hb1 : Blk w1 g 29 #[.slice a xs.length c, .int .i64 (most : Int)] := h.blk.keeps (((Keeps.refl _ w).drewN n).drew.grown hg (fun _ hk _ => hk)) hne
    exact ⟨by rw [hb1.cell]; rfl, hb1.frozen 0⟩
  have hkm : k ≤ m := by omega
  have hbm : xs.length + k ≤ most := by omega
  by_cases hx : (most : Int) - (xs.length : Int) < (m : Int)
  · have hkk : (most : Int) - (xs.length : Int) = (k : Int) := by omega
    have hx' : (k : Int) < (m : Int) := by omega
    have hp : (0 : Int) < (k : Int) := by omega
    have hkC : k ≤ C := by omega
    clear hk
    go_enter Tryz.func8, Tryz.ntmps8
    go_wp2_with (go_at_call 19; refine (room_any h).mono ?_; rintro e w' ⟨rfl, n, rfl⟩)
    go_region_law (refine step_append_lie _ rfl (.tmp 17) (.tmp 20) 27 rfl B 3 i0 _ 1 8 Tryz.underlying27 hi hz0 hz1 hz2 rfl (by decide) a xs.length c (xs.map val) rfl hown A k C ((ys.take k).map val) rfl hlt (one_val _) (by unfold maxLen; omega) (by omega) hbase ?_; intro a' c' w1 ho1 hg1 hat1; have R1 := Lib.hid (fin n a' c' w1 ho1 hg1 hat1); have R2 := (c0 n w1 hg1).1; have R3 := (c0 n w1 hg1).2; clear ho1 hg1 hat1)
    all_goals (go_wp2; go_ret; exact ⟨rfl, a', c', R1.out⟩)
  · obtain rfl : k = m := by omega
    have hp : (0 : Int) < (k : Int) := by omega
    clear hk hkm
    go_enter Tryz.func8, Tryz.ntmps8
    go_wp2_with (go_at_call 19; refine (room_any h).mono ?_; rintro e w' ⟨rfl, n, rfl⟩)
    go_region_law (refine step_append_lie _ rfl (.tmp 17) (.tmp 20) 27 rfl B 3 i0 _ 1 8 Tryz.underlying27 hi hz0 hz1 hz2 rfl (by decide) a xs.length c (xs.map val) rfl hown A k C ((ys.take k).map val) rfl hlt (one_val _) (by unfold maxLen; omega) (by omega) hbase ?_; intro a' c' w1 ho1 hg1 hat1; have R1 := Lib.hid (fin n a' c' w1 ho1 hg1 hat1); have R2 := (c0 n w1 hg1).1; have R3 := (c0 n w1 hg1).2; clear ho1 hg1 hat1)
    all_goals (go_wp2; go_ret; exact ⟨rfl, a', c', R1.out⟩)


theorem peek_in {w : World} {B g most : Nat} {a : Option Addr} {c : Nat} {xs : List Int} (h : RingAt val 29 3 w B g most a c xs) (z : Int) (h0 : 0 ≤ z) (hz : z < (xs.length : Int)) :
    Calls Tryz.prog 14 #[.pointer (some ⟨g, 0, none⟩), .int .i64 z] w fun e w' => e = .returned (.tuple #[.int .i64 (xs.getD z.toNat 0), .bool true]) ∧ w = w' := by
  have hlt : z.toNat < xs.length := by omega
  obtain ⟨b, rfl, hc, _⟩ := h.cellAt hlt
  have e0 : xs[z.toNat] = xs.getD z.toNat 0 := by simp [List.getElem?_eq_getElem hlt]
  rw [e0] at hc
  generalize xs.getD z.toNat 0 = y at hc ⊢
  have hle := h.le
  have hlem := h.lem
  have hcl := h.capLe
  have h00 := h.cell0
  have hz' : ¬ (z < 0) := by omega
  have hz'' : ¬ ((xs.length : Int) ≤ z) := by omega
  clear e0
  go_enter Tryz.func14, Tryz.ntmps14
  go_wp2_with (go_at_call 18; refine (len_any h).mono ?_; rintro e w' ⟨rfl, rfl⟩)
  go_ret2
  exact ⟨rfl, rfl⟩

theorem peek_out {w : World} {B g most : Nat} {a : Option Addr} {c : Nat} {xs : List Int} (h : RingAt val 29 3 w B g most a c xs) (z : Int) (hz : z < 0 ∨ (xs.length : Int) ≤ z) :
    Calls Tryz.prog 14 #[.pointer (some ⟨g, 0, none⟩), .int .i64 z] w fun e w' => e = .returned (.tuple #[.int .i64 0, .bool false]) ∧ w = w' := by
  by_cases h0 : z < 0
  · go_enter Tryz.func14, Tryz.ntmps14
    go_wp2_with (go_at_call 18; refine (len_any h).mono ?_; rintro e w' ⟨rfl, rfl⟩)
    go_ret2
    exact ⟨rfl, rfl⟩
  · have h1 : (xs.length : Int) ≤ z := by omega
    clear hz
    go_enter Tryz.func14, Tryz.ntmps14
    go_wp2_with (go_at_call 18; refine (len_any h).mono ?_; rintro e w' ⟨rfl, rfl⟩)
    go_ret2
    exact ⟨rfl, rfl⟩

theorem set_out {w : World} {B g most : Nat} {a : Option Addr} {c : Nat} {xs : List Int} (h : RingAt val 29 3 w B g most a c xs) (z v : Int) (hz : z < 0 ∨ (xs.length : Int) ≤ z) :
    Calls Tryz.prog 11 #[.pointer (some ⟨g, 0, none⟩), .int .i64 z, .int .i64 v] w fun e w' => e = .returned (.bool false) ∧ w = w' := by
  by_cases h0 : z < 0
  · go_enter Tryz.func11, Tryz.ntmps11
    go_wp2_with (go_at_call 18; refine (len_any h).mono ?_; rintro e w' ⟨rfl, rfl⟩)
    go_ret
    exact ⟨rfl, rfl⟩
  · have h1 : (xs.length : Int) ≤ z := by omega
    clear hz
    go_enter Tryz.func11, Tryz.ntmps11
    go_wp2_with (go_at_call 18; refine (len_any h).mono ?_; rintro e w' ⟨rfl, rfl⟩)
    go_ret
    exact ⟨rfl, rfl⟩

theorem set_in {w : World} {B g most : Nat} {a : Option Addr} {c : Nat} {xs : List Int} (h : RingAt val 29 3 w B g most a c xs) (z v : Int) (h0 : 0 ≤ z) (hz : z < (xs.length : Int)) :
    Calls Tryz.prog 11 #[.pointer (some ⟨g, 0, none⟩), .int .i64 z, .int .i64 v] w fun e w' => e = .returned (.bool true) ∧ RingAt val 29 3 w' B g most a c (xs.set z.toNat v) ∧ Keeps (ringF g a) w w' := by
  have hlt : z.toNat < xs.length := by omega
  obtain ⟨b, rfl, hc, hf⟩ := h.cellAt hlt
  have R := h.set_ (k := z.toNat) (by decide) rfl v
  generalize xs[z.toNat] = y at hc
  have hle := h.le
  have hlem := h.lem
  have hcl := h.capLe
  have h00 := h.cell0
  have hz' : ¬ (z < 0) := by omega
  have hz'' : ¬ ((xs.length : Int) ≤ z) := by omega
  go_enter Tryz.func11, Tryz.ntmps11
  go_wp2_with (go_at_call 18; refine (len_any h).mono ?_; rintro e w' ⟨rfl, rfl⟩)
  go_ret
  exact ⟨rfl, R⟩

theorem drop_none {w : World} {B g most : Nat} {a : Option Addr} {c : Nat} {xs : List Int} (h : RingAt val 29 3 w B g most a c xs) (z : Int) (hz : z ≤ 0 ∨ xs.length = 0) :
    Calls Tryz.prog 12 #[.pointer (some ⟨g, 0, none⟩), .int .i64 z] w fun e w' => e = .returned (.int .i64 0) ∧ w = w' := by
  by_cases h0 : z < 0
  · have h2 : ¬ (xs.length : Int) < 0 := by omega
    go_enter Tryz.func12, Tryz.ntmps12
    go_wp2_with (go_at_call 18; refine (len_any h).mono ?_; rintro e w' ⟨rfl, rfl⟩)
    go_ret
    exact ⟨rfl, rfl⟩
  · by_cases h1 : (xs.length : Int) < z
    · have h2 : ¬ (0 : Int) < xs.length := by omega
      clear hz
      go_enter Tryz.func12, Tryz.ntmps12
      go_wp2_with (go_at_call 18; refine (len_any h).mono ?_; rintro e w' ⟨rfl, rfl⟩)
      go_ret
      exact ⟨ret_int (by omega), rfl⟩
    · have h2 : ¬ (0 : Int) < z := by omega
      clear hz
      go_enter Tryz.func12, Tryz.ntmps12
      go_wp2_with (go_at_call 18; refine (len_any h).mono ?_; rintro e w' ⟨rfl, rfl⟩)
      go_ret
      exact ⟨ret_int (by omega), rfl⟩

theorem drop_some {w : World} {B g most : Nat} {a : Option Addr} {c : Nat} {xs : List Int} (h : RingAt val 29 3 w B g most a c xs) (z : Int) (k : Nat) (hk : k = min z.toNat xs.length) (h0 : 0 < k) :
    Calls Tryz.prog 12 #[.pointer (some ⟨g, 0, none⟩), .int .i64 z] w fun e w' => e = .returned (.int .i64 (k : Int)) ∧
      RingOut val 29 3 w B g most a (xs.drop k) w' := by
  have hle := h.le
  have hlem := h.lem
  have hcl := h.capLe
  have hcm := h.capMax
  unfold maxLen at hcm
  obtain ⟨i0, hi, hi0, hi1, hi2⟩ := info_parts infoE
  obtain ⟨b, rfl, -, -⟩ := h.cellAt (k := 0) (by omega)
  have h00 := h.cell0
  have hlies := h.lies
  have hbase := h.base
  have hkx : k ≤ xs.length := by omega
  have hzk : k = z.toNat ∧ (0 : Int) < z ∨ k = xs.length ∧ (xs.length : Int) < z := by omega
  clear hk
  have hfr := h.free 0
  have hlc := hlies.cut hkx hcl
  have hone : ∀ u ∈ (xs.map val).drop k, u.oneCell' = true := fun u hu => one_val xs u (List.mem_of_mem_drop hu)
  have fin : ∀ (a' : Option Addr) (c' : Nat) (w1 : World), w1.ownsRow w.heap.size 3 1 (.slice a' (0 + (xs.length - k)) c') (0 + (xs.length - k)) ([] ++ (xs.map val).drop k) → w.grownBy w1 (Value.slice none 0 0).ownBlock →
      RingAt val 29 3 (w1.setCell ⟨g, 0, none⟩ (.slice a' (xs.length - k) c')) B g most a' c' (xs.drop k) ∧ Keeps (ringF g (some ⟨b, 0, none⟩)) w (w1.setCell ⟨g, 0, none⟩ (.slice a' (xs.length - k) c')) ∧ Grows w (ringF g (some ⟨b, 0, none⟩)) (ringF g a') := by
    intro a' c' w1 ho hg
    simp only [Nat.zero_add, List.nil_append, ← List.map_drop] at ho
    have hge := ho.lt
    refine h.put (by decide) ((Keeps.refl _ w).grown hg (fun k hk => by simp [Value.ownBlock] at hk)) (own_base ho (fun k hk => Nat.le_trans hbase (hge k hk).1)) (by rw [List.length_drop]) (by rw [List.length_drop]; omega) ?_
    intro k' hk'
    exact .inr (hge k' ((own_blk _ _ _).trans hk')).1
  have c0 : ∀ (w1 : World), w.grownBy w1 (Value.slice none 0 0).ownBlock → w1.cell? ⟨g, 0, none⟩ = some (.slice (some ⟨b, 0, none⟩) xs.length c) ∧ w1.frozen? ⟨g, 0, none⟩ = false := by
    intro w1 hg
    have hb1 := h.blk.grown hg (by simp [Value.ownBlock])
    exact ⟨by rw [hb1.cell]; rfl, hb1.frozen 0⟩
  rcases hzk with ⟨rfl, hz⟩ | ⟨rfl, hz⟩
  · have hx : ¬ (xs.length : Int) < z := by omega
    have hz' : ¬ z < 0 := by omega
    go_enter Tryz.func12, Tryz.ntmps12
    go_wp2_with (first | (go_at_call 18; refine (len_any h).mono ?_; rintro e w' ⟨rfl, rfl⟩) | (at_builtin; go_loud (refine wpList_append_lie _ rfl _ (.tmp 18) 27 rfl w.heap.size 3 i0 _ 1 8 Tryz.underlying27 hi hi0 hi1 hi2 rfl (by decide) none 0 0 [] rfl (World.ownsRow_nil _ _ _ _) _ (xs.length - z.toNat) (c - z.toNat) _ rfl hlc hone (by unfold maxLen; omega) (by omega) (Nat.le_refl _) ?_); intro a' c' w1 ho hg hat; have R1 := Lib.hid (fin a' c' w1 ho hg); have R2 := (c0 w1 hg).1; have R3 := (c0 w1 hg).2; clear ho hg hat))
    all_goals (go_ret; exact ⟨ret_int (by omega), a', c', R1.out⟩)
  · have hx : (0 : Int) < (xs.length : Int) := by omega
    have hz' : ¬ z < 0 := by omega
    rw [Nat.sub_self] at hlc
    go_enter Tryz.func12, Tryz.ntmps12
    go_wp2_with (first | (go_at_call 18; refine (len_any h).mono ?_; rintro e w' ⟨rfl, rfl⟩) | (at_builtin; go_loud (refine wpList_append_lie _ rfl _ (.tmp 18) 27 rfl w.heap.size 3 i0 _ 1 8 Tryz.underlying27 hi hi0 hi1 hi2 rfl (by decide) none 0 0 [] rfl (World.ownsRow_nil _ _ _ _) _ 0 (c - xs.length) _ rfl hlc hone (by unfold maxLen; omega) (by omega) (Nat.le_refl _) ?_); intro a' c' w1 ho hg hat; have R1 := Lib.hid (fin a' c' w1 (by rw [Nat.sub_self]; exact ho) hg); have R2 := (c0 w1 hg).1; have R3 := (c0 w1 hg).2; clear ho hg hat))
    all_goals (go_ret; exact ⟨rfl, a', c', by have := R1.out; simpa using this⟩)

theorem list_any {w : World} {B g most : Nat} {a : Option Addr} {c : Nat} {xs : List Int} (h : RingAt val 29 3 w B g most a c xs) :
    Calls Tryz.prog 15 #[.pointer (some ⟨g, 0, none⟩)] w (NewSlice 3 1 w xs.length (xs.map val)) := by
  have hle := h.le
  have hlem := h.lem
  obtain ⟨i0, hi, hz0, hz1, hz2⟩ := info_parts infoE
  have h00 := h.cell0
  have hlies := h.lies
  go_enter Tryz.func15, Tryz.ntmps15
  go_wp2_with (at_builtin; refine wpList_append_lie _ rfl _ _ 27 rfl w.heap.size 3 i0 _ 1 8 Tryz.underlying27 hi hz0 hz1 hz2 rfl (by decide) none 0 0 [] rfl (World.ownsRow_nil _ _ _ _) a xs.length c (xs.map val) rfl hlies (one_val xs) (by unfold maxLen; omega) (by omega) (Nat.le_refl _) ?_; intro a' c' w1 hown hg hat)
  go_ret
  refine ⟨a', c', by simp, by simpa using hown, (Keeps.refl _ w).grown hg (fun k hk => by simp [Value.ownBlock] at hk)⟩


theorem drop_any {w : World} {B g most : Nat} {a : Option Addr} {c : Nat} {xs : List Int} (h : RingAt val 29 3 w B g most a c xs) (z : Int) :
    Calls Tryz.prog 12 #[.pointer (some ⟨g, 0, none⟩), .int .i64 z] w fun e w' => e = .returned (.int .i64 ((min z.toNat xs.length : Nat) : Int)) ∧
      RingOut val 29 3 w B g most a (xs.drop (min z.toNat xs.length)) w' := by
  by_cases h0 : 0 < min z.toNat xs.length
  · exact drop_some h z _ rfl h0
  · refine (drop_none h z (by omega)).mono ?_
    rintro e w' ⟨rfl, rfl⟩
    have h1 : min z.toNat xs.length = 0 := by omega
    rw [h1]
    exact ⟨rfl, a, c, h, Keeps.refl _ _, Grows.refl _ _⟩

theorem push_any {w : World} {B g most : Nat} {a : Option Addr} {c : Nat} {xs : List Int} (h : RingAt val 29 3 w B g most a c xs)
    (A : Option Addr) (m C : Nat) (hm : m ≤ maxLen) (hC : m ≤ C) (ys : List Int) (hl : Lies w 1 A m (ys.map val)) :
    Calls Tryz.prog 8 #[.pointer (some ⟨g, 0, none⟩), .slice A m C] w fun e w' => e = .returned (.int .i64 ((min m (most - xs.length) : Nat) : Int)) ∧
      RingOut val 29 3 w B g most a (xs ++ ys.take (min m (most - xs.length))) w' := by
  by_cases h0 : 0 < min m (most - xs.length)
  · exact push_some h A m C hm hC ys hl h0
  · refine (push_none h A m C hm (by omega)).mono ?_
    rintro e w' ⟨rfl, n, rfl⟩
    have h1 : min m (most - xs.length) = 0 := by omega
    rw [h1]
    exact ⟨rfl, a, c, by simpa using h.drewN n, (Keeps.refl _ _).drewN n, Grows.refl _ _⟩

theorem pop_cons {w : World} {B g most : Nat} {a : Option Addr} {c : Nat} {x : Int} {xs : List Int} (h : RingAt val 29 3 w B g most a c (x :: xs)) :
    Calls Tryz.prog 10 #[.pointer (some ⟨g, 0, none⟩)] w fun e w' => e = .returned (.tuple #[.int .i64 x, .bool true]) ∧ RingOut val 29 3 w B g most a xs w' := by
  have hle := h.le
  have hlem := h.lem
  go_enter Tryz.func10, Tryz.ntmps10
  go_wp2_with (first | (go_at_call 14; refine (peek_in h 0 (by omega) (by simp only [List.length_cons]; omega)).mono ?_; rintro e w' ⟨rfl, rfl⟩) | (go_at_call 12; refine (drop_any h 1).mono ?_; rintro e w1 ⟨rfl, hr⟩; have R1 := Lib.hid hr; clear hr))
  go_ret2
  refine ⟨by simp, ?_⟩
  have := R1.out
  rw [show min (1 : Int).toNat (x :: xs).length = 1 by simp] at this
  exact this

theorem pop_nil {w : World} {B g most : Nat} {a : Option Addr} {c : Nat} (h : RingAt val 29 3 w B g most a c []) :
    Calls Tryz.prog 10 #[.pointer (some ⟨g, 0, none⟩)] w fun e w' => e = .returned (.tuple #[.int .i64 0, .bool false]) ∧ w = w' := by
  go_enter Tryz.func10, Tryz.ntmps10
  go_wp2_with (first | (go_at_call 14; refine (peek_out h 0 (by simp)).mono ?_; rintro e w' ⟨rfl, rfl⟩) | (go_at_call 12; refine (drop_none h 1 (by simp)).mono ?_; rintro e w1 ⟨rfl, rfl⟩))
  go_ret2
  exact ⟨rfl, rfl⟩

theorem clear_any {w : World} {B g most : Nat} {a : Option Addr} {c : Nat} {xs : List Int} (h : RingAt val 29 3 w B g most a c xs) :
    Calls Tryz.prog 13 #[.pointer (some ⟨g, 0, none⟩)] w fun e w' => e = .returned (.int .i64 (xs.length : Int)) ∧ RingOut val 29 3 w B g most a [] w' := by
  go_enter Tryz.func13, Tryz.ntmps13
  go_wp2_with (first | (go_at_call 18; refine (len_any h).mono ?_; rintro e w' ⟨rfl, rfl⟩) | (go_at_call 12; refine (drop_any h _).mono ?_; rintro e w1 ⟨rfl, hr⟩; have R1 := Lib.hid hr; clear hr))
  go_ret
  have := R1.out
  simp only [Int.toNat_natCast, Nat.min_self, List.drop_length] at this ⊢
  exact ⟨rfl, this⟩

def roomOf (z : Int) : Nat := (min (max z 0) 100000).toNat
theorem room_fn (z : Int) (w : World) : Calls Tryz.prog 21 #[.int .i64 z] w fun e w' => e = .returned (.int .i64 (roomOf z : Int)) ∧ w = w' := by
  by_cases h0 : z < 0
  · go_enter Tryz.func21, Tryz.ntmps21
    go_wp2
    go_ret
    exact ⟨ret_int (by unfold roomOf; omega), rfl⟩
  · by_cases h1 : 100000 < z
    · go_enter Tryz.func21, Tryz.ntmps21
      go_wp2
      go_ret
      exact ⟨ret_int (by unfold roomOf; omega), rfl⟩
    · go_enter Tryz.func21, Tryz.ntmps21
      go_wp2
      go_ret
      exact ⟨ret_int (by unfold roomOf; omega), rfl⟩

theorem new_any (z : Int) (w : World) : Calls Tryz.prog 5 #[.int .i64 z] w fun e w' => e = .returned (.pointer (some ⟨w.heap.size, 0, none⟩)) ∧
    RingAt val 29 3 w' w.heap.size w.heap.size (roomOf z) none 0 [] ∧ Keeps (fun _ => False) w w' := by
  go_enter Tryz.func5, Tryz.ntmps5
  go_wp2_with (go_at_call 21; refine (room_fn z _).mono ?_; rintro e w' ⟨rfl, rfl⟩)
  go_ret
  exact ⟨rfl, ⟨Blk.new _ _ _, World.ownsRow_nil _ _ _ _, Nat.le_refl _, Nat.zero_le _, by unfold roomOf; omega⟩, (Keeps.refl _ _).alloc _⟩
end Go.Proofs.YthnlfgogibjbnaaGreat.RI
