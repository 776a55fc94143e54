/- commonsbook.copyInts, LentInts, StaysInts, markInts. No condition. -/
import Derived.Test.YthnlfgogibjbnaaGreatRingI
import Derived.Test.YthnlfgogibjbnaaGreatSameInts
import Derived.Test.YthnlfgogibjbnaaGreatRow
import Derived.Test.YthnlfgogibjbnaaGreatRegInv2
import Derived.Test.YthnlfgogibjbnaaGreatMore
import Derived.Lib.Hide
namespace Go.Proofs.YthnlfgogibjbnaaGreat.RB
set_option maxRecDepth 100000
set_option maxRecDepth 100000
open Go.RowKit Go.Proofs.YthnlfgogibjbnaaGreat.Bk
set_option linter.unusedVariables false
set_option linter.unusedSimpArgs false

abbrev TI : TypeId := 3
abbrev val : Int → Value := fun z => .int .i64 z
abbrev TL : TypeId := 27
theorem infoI : (Tryz.prog.info? TI).map (fun i => (i.zero, i.size, i.bytes)) = some (some (.int .i64 0), 1, 8) := by kernel_rfl
/-- A new row that holds xs. -/
def RowOut (n : Nat) (xs : List Int) (w : World) (e : Ending) (w' : World) : Prop := ∃ a c, e = .returned (.slice a n c) ∧ w'.ownsRow w.heap.size TI 1 (.slice a n c) n (xs.map val) ∧ Below w.heap.size w w'
theorem row_more {e : TypeId} {sz : Nat} {w W W' : World} {a : Option Addr} {c n : Nat} {zs : List Value} (h : W.ownsRow w.heap.size e sz (.slice a n c) n zs) (hb : Below w.heap.size w W) (hg : W.grownBy W' (Value.slice a 0 0).ownBlock) : Below w.heap.size w W' := by
  have k1 : Keeps (fun k => w.heap.size ≤ k) W W' := (Keeps.refl _ _).grown hg (fun k hk _ => (h.lt k (by rw [own_blk]; exact hk)).1)
  exact k1.after hb (fun _ h => h) hb.size
theorem row_first {W W' : World} (hg : W.grownBy W' (Value.slice none 0 0).ownBlock) : Below W.heap.size W W' := row_more (World.ownsRow_nil W W.heap.size TI 1) (belowSame _) hg
theorem ones (xs : List Int) : ∀ u ∈ xs.map val, u.oneCell' = true := by
  intro u hu
  obtain ⟨z, _, rfl⟩ := List.mem_map.1 hu
  rfl
theorem own_caps {w : World} {B : Nat} {e : TypeId} {size n c : Nat} {a : Option Addr} {xs : List Value} (h : w.ownsRow B e size (.slice a n c) n xs) : n ≤ c ∧ c ≤ maxLen := by
  rcases h.2 with ⟨e, h0⟩ | ⟨g', cap, cur, e, _, _, k1, k2, _⟩
  · injection e with e1 e2 e3; subst e3; unfold maxLen; omega
  · injection e with e1 e2 e3; subst e3; exact ⟨k1, k2⟩
theorem own_place {w : World} {B : Nat} {e : TypeId} {size n c : Nat} {a : Option Addr} {xs : List Value} (h : w.ownsRow B e size (.slice a n c) n xs) (hn : 0 < n) : ∃ b, a = some ⟨b, 0, none⟩ := by
  rcases h.2 with ⟨e, h0⟩ | ⟨g', cap, cur, e, _⟩
  · omega
  · injection e with e1 e2 e3; exact ⟨g', e1⟩
theorem own_take {w : World} {B : Nat} {e : TypeId} {g n m c : Nat} {xs ys : List Value} (h : w.ownsRow B e 1 (.slice (some ⟨g, 0, none⟩) m c) m (xs ++ ys)) (hn : n ≤ m) (hx : xs.length = n) : Lies w 1 (some ⟨g, 0, none⟩) n xs := by
  have := (Lies.of_own h).take (k := n) hn
  rw [List.take_append_of_le_length (by omega), List.take_of_length_le (by omega)] at this
  exact this
theorem copy_ints (A : Option Addr) (n c : Nat) (xs : List Int) (w : World) (hl : Lies w 1 A n (xs.map val)) (hn : n ≤ 100000) :
    Calls Tryz.prog 22 #[.slice A n c] w (RowOut n xs w) := by
  obtain ⟨i0, hi, hz0, hz1, hz2⟩ := info_parts infoI
  go_enter Tryz.func22, Tryz.ntmps22
  go_wp2_with (at_builtin; refine wpList_append_lie _ rfl _ _ 27 rfl w.heap.size TI i0 _ 1 8 Tryz.underlying27 hi hz0 hz1 hz2 rfl (by decide) none 0 0 [] rfl (World.ownsRow_nil _ _ _ _) A n c (xs.map val) rfl hl (ones xs) (by unfold maxLen; omega) (by omega) (Nat.le_refl _) ?_; intro a1 c1 w1 ho hg hat; (simp only [Nat.zero_add, List.nil_append] at ho ⊢); have B1 := row_first hg; clear hg hat; have HO := Lib.hid ho; clear ho)
  go_ret
  exact ⟨a1, c1, rfl, HO.out, B1⟩
/-- A list with room behind it, in which a mark stands. -/
def LentOut (n : Nat) (xs : List Int) (w : World) (e : Ending) (w' : World) : Prop :=
  ∃ b c, e = .returned (.slice (some ⟨b, 0, none⟩) n c) ∧ n + 1 ≤ c ∧ c ≤ maxLen ∧ w'.ownsRow w.heap.size TI 1 (.slice (some ⟨b, 0, none⟩) (n + 1) c) (n + 1) (xs.map val ++ [.int .i64 (-77)]) ∧ Below w.heap.size w w'
theorem lent_ints (A : Option Addr) (n c : Nat) (xs : List Int) (w : World) (hl : Lies w 1 A n (xs.map val)) (hn : n ≤ 100000) :
    Calls Tryz.prog 7 #[.slice A n c] w (LentOut n xs w) := by
  obtain ⟨i0, hi, hz0, hz1, hz2⟩ := info_parts infoI
  have HL := Lib.hid hl
  clear hl
  go_enter Tryz.func7, Tryz.ntmps7
  go_wp2_with (first
    | (at_builtin; refine wpList_append_lie _ rfl _ _ 27 rfl w.heap.size TI i0 _ 1 8 Tryz.underlying27 hi hz0 hz1 hz2 rfl (by decide) a1 n c1 (xs.map val) rfl O1.out (some ⟨w1.heap.size, 0, none⟩) 1 1 [.int .i64 (-77)] rfl (Lies.of_blk (cs := #[.int .i64 (-77)]) (Blk.new _ _ _)) (by intro u hu; simp at hu; subst hu; rfl) (by unfold maxLen; omega) (by omega) (by have := B1.out.size; simp; omega) ?_; intro a2 c2 w2 ho2 hg2 hat2; obtain ⟨b2, rfl⟩ := own_place ho2 (by omega); have B2 := Lib.hid (row_more O1.out B1A.out hg2); have k2 := (own_caps ho2).1; have K2 := Lib.hid (own_caps ho2).2; have O2 := Lib.hid ho2; clear hg2 hat2 ho2; have k3 : (n : Int) ≤ (c2 : Int) := by omega)
    | (at_builtin; refine wpList_append_lie _ rfl _ _ 27 rfl w.heap.size TI i0 _ 1 8 Tryz.underlying27 hi hz0 hz1 hz2 rfl (by decide) none 0 0 [] rfl (World.ownsRow_nil _ _ _ _) A n c (xs.map val) rfl HL.out (ones xs) (by unfold maxLen; omega) (by omega) (Nat.le_refl _) ?_; intro a1 c1 w1 ho hg hat; (simp only [Nat.zero_add, List.nil_append] at ho ⊢); have B1 := Lib.hid (row_first hg); have O1 := Lib.hid (ho.alloc (.cells #[.int .i64 (-77)] 3)); have B1A := Lib.hid (belowNew B1.out (.cells #[.int .i64 (-77)] 3)); clear hg hat ho))
  go_ret
  exact ⟨b2, c2, rfl, k2, K2.out, O2.out, B2.out⟩
theorem stays_ints (b n c c2 : Nat) (A : Option Addr) (xs : List Int) (w : World) (hl : xs.length = n) (h1 : Lies w 1 (some ⟨b, 0, none⟩) n (xs.map val)) (hm : w.cell? ⟨b, n, none⟩ = some (.int .i64 (-77))) (hA : Lies w 1 A n (xs.map val)) (hn : n ≤ 100000) (k1 : n + 1 ≤ c) (k2 : c ≤ maxLen) :
    Calls Tryz.prog 9 #[.slice (some ⟨b, 0, none⟩) n c, .slice A n c2] w fun e w' => e = .returned (.bool true) ∧ ∃ m, w' = w.drewN m := by
  unfold maxLen at k2
  have ks := same_ints (some ⟨b, 0, none⟩) A n c c2 xs w h1 hA (by unfold maxLen; omega)
  have k3 : (n : Int) + 1 ≤ (c : Int) := by omega
  clear h1 hA hl
  go_enter Tryz.func9, Tryz.ntmps9
  go_wp2_with (go_at_call 17; refine ks.mono ?_; rintro e w' ⟨rfl, m, rfl⟩)
  go_ret
  exact ⟨rfl, m, rfl⟩
theorem lent_mark {w : World} {B b n c : Nat} {xs : List Int} (h : w.ownsRow B TI 1 (.slice (some ⟨b, 0, none⟩) (n + 1) c) (n + 1) (xs.map val ++ [.int .i64 (-77)])) (hl : xs.length = n) : w.cell? ⟨b, n, none⟩ = some (.int .i64 (-77)) := by
  have := h.cells (g := b) rfl n (.int .i64 (-77)) (by rw [List.getElem?_append_right (by simp; omega)]; simp [hl])
  rwa [Go.WideShapes.add_plain, Nat.zero_add] at this
/-- What is written into a list. -/
def mark (i k : Nat) : Int := -1000000 * (i : Int) - (k : Int) - 7
def marks (i f n : Nat) : List Int := (List.range n).map fun k => mark i (f + k)
theorem marks_len (i f n : Nat) : (marks i f n).length = n := by simp [marks]
theorem marks_succ (i f n : Nat) : marks i f (n + 1) = marks i f n ++ [mark i (f + n)] := by simp [marks, List.range_succ]
theorem marks_add (i n m : Nat) : marks i 0 n ++ marks i n m = marks i 0 (n + m) := by
  induction m with
  | zero => simp [marks]
  | succ m ih => rw [marks_succ, ← List.append_assoc, ih, ← Nat.add_assoc, marks_succ, Nat.zero_add]
theorem mark_ints (i f n : Nat) (w : World) (hi9 : i ≤ 1000) (hf : f ≤ 100000) (hn : n ≤ 100000) :
    Calls Tryz.prog 101 #[.int .i64 (i : Int), .int .i64 (f : Int), .int .i64 (n : Int)] w (RowOut n (marks i f n) w) := by
  obtain ⟨i0, hi, hz0, hz1, hz2⟩ := info_parts infoI
  go_enter Tryz.func101, Tryz.ntmps101
  go_wp2
  go_loopw [7, 8] (fun s j wr => ∃ (k : Nat) (a' : Option Addr) (c' : Nat), k ≤ n ∧ j = .int .i64 ((f + k : Nat) : Int) ∧ s = .slice a' k c' ∧ Hid (wr.ownsRow w.heap.size TI 1 (.slice a' k c') k ((marks i f k).map val)) ∧ Below w.heap.size w wr) (fun _ j _ => f + n - (intOf j).toNat)
  case atStart => exact ⟨0, none, 0, by omega, by simp, rfl, Lib.hid (World.ownsRow_nil _ _ _ _), belowSame _⟩
  case round =>
    obtain ⟨k, a', c', hk, rfl, rfl, HR, hB⟩ := hrel
    have e0 : IntKind.i64.wrap ((f : Int) + (n : Int)) = (f : Int) + (n : Int) := IntWalk.i64_in _ (by omega)
    by_cases hlt : k < n
    · obtain ⟨q, hq⟩ : ∃ q : Nat, f + k = q := ⟨_, rfl⟩
      rw [hq]
      have d0 : (q : Int) < (f : Int) + (n : Int) := by omega
      have e1 : IntKind.i64.wrap (-1000000 * (i : Int)) = -1000000 * (i : Int) := IntWalk.i64_in _ (by omega)
      have e2 : IntKind.i64.wrap (-1000000 * (i : Int) - (q : Int)) = -1000000 * (i : Int) - (q : Int) := IntWalk.i64_in _ (by omega)
      have e3 : IntKind.i64.wrap (-1000000 * (i : Int) - (q : Int) - 7) = -1000000 * (i : Int) - (q : Int) - 7 := IntWalk.i64_in _ (by omega)
      have e4 : IntKind.i64.wrap ((q : Int) + 1) = (q : Int) + 1 := IntWalk.i64_in _ (by omega)
      have hfin : ∀ (w3 : World) (a3 : Option Addr) (c3 : Nat), w3.ownsRow w.heap.size TI 1 (.slice a3 (k + 1) c3) (k + 1) ((marks i f k).map val ++ [.int .i64 (-1000000 * (i : Int) - (q : Int) - 7)]) → w3.ownsRow w.heap.size TI 1 (.slice a3 (k + 1) c3) (k + 1) ((marks i f (k + 1)).map val) := by
        intro w3 a3 c3 h
        rw [marks_succ, hq]
        simpa [mark] using h
      have HF := Lib.hid hfin
      have hmx : k + 1 ≤ maxLen := by unfold maxLen; omega
      have HQ := Lib.hid hq
      have HK := Lib.hid hlt
      have HB := Lib.hid hB
      have HN := Lib.hid (And.intro hn hk)
      clear hfin hq hlt hB
      go_wp2_with (at_builtin; refine wpList_append_lie _ rfl _ _ 27 rfl w.heap.size TI i0 _ 1 8 Tryz.underlying27 hi hz0 hz1 hz2 rfl (by decide) a' k c' ((marks i f k).map val) rfl (HR.out.alloc _) (some ⟨wr.heap.size, 0, none⟩) 1 1 [.int .i64 (-1000000 * (i : Int) - (q : Int) - 7)] rfl (Lies.of_blk (cs := #[.int .i64 (-1000000 * (i : Int) - (q : Int) - 7)]) (Blk.new _ _ _)) (by intro u hu; simp at hu; subst hu; rfl) hmx (by have := HN.out; omega) (by have := HB.out.size; simp; omega) ?_; intro a3 c3 w3 ho3 hg3 hat3; have R3 := Lib.hid (HF.out _ _ _ ho3); have B3 := Lib.hid (row_more (HR.out.alloc _) (belowNew HB.out _) hg3); clear ho3 hg3 hat3)
      go_roundw
      case rel => exact ⟨k + 1, a3, c3, by have := HK.out; omega, by have := HQ.out; subst this; go_num, rfl, R3, B3.out⟩
      case measure => have := HQ.out; have := HK.out; simp [intOf]; omega
    · obtain rfl : k = n := by omega
      have d0 : ¬ ((f + k : Nat) : Int) < (f : Int) + (k : Int) := by omega
      go_wp2
      go_ret
      exact ⟨a', c', rfl, HR.out, hB⟩
end Go.Proofs.YthnlfgogibjbnaaGreat.RB
