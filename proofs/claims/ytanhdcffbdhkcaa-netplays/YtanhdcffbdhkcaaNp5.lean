/- NetPlays: commonsbook.LentPackets, SamePackets, StaysPackets. No condition. -/
import Derived.Test.YtanhdcffbdhkcaaNp3
import Derived.Laws.StructEq
namespace Go.Proofs.Ytanhdcffbdhkcaa.NP
set_option maxRecDepth 100000
set_option maxRecDepth 100000
open Go.RowKit Go.Proofs.Ytanhdcffbdhkcaa.RP Go.Proofs.Ytanhdcffbdhkcaa.CM Go.Proofs.Ytanhdcffbdhkcaa.NT
set_option linter.unusedVariables false
set_option linter.unusedSimpArgs false

def markP : List Value := [.int .i64 (-77), .int .i64 0, .string ⟨#[]⟩]
/-- What is lent: a row of its own that holds the datagrams, and a mark behind them. -/
def LentOut (n : Nat) (l : List Pk) (w : World) (e : Ending) (w' : World) : Prop :=
  ∃ (b c : Nat) (cur : Array Value), e = .returned (.slice (some ⟨b, 0, none⟩) n c) ∧ n + 1 ≤ c ∧ c ≤ maxLen ∧ w.heap.size ≤ b ∧ Blk w' b TP cur ∧ (∀ (j : Nat) (u : Value), (l.flatMap val ++ markP)[j]? = some u → cur[j]? = some u) ∧ Below w.heap.size w w'
theorem lent_of {w w' : World} {n : Nat} {l : List Pk} {a : Option Addr} {c : Nat} (h : w'.ownsRow w.heap.size TP 3 (.slice a (n + 1) c) (n + 1) (l.flatMap val ++ markP)) (hb : Below w.heap.size w w') : ∃ b, a = some ⟨b, 0, none⟩ ∧ n + 1 ≤ c ∧ LentOut n l w (.returned (.slice a n c)) w' := by
  rcases h.2 with ⟨h0, h1⟩ | ⟨g, cap, cur, h0, hbg, hh, h1, h2, h3, h4⟩
  · injection h0 with h2 h3 h4
    exact absurd h3 (by omega)
  · injection h0 with ha hn hc
    subst ha hc
    refine ⟨g, rfl, h1, g, c, cur, rfl, h1, h2, hbg, hh, fun j u hu => ?_, hb⟩
    rw [← h4, List.getElem?_take] at hu
    split at hu
    · simpa using hu
    · cases hu
theorem row_moreN {w W W' : World} {a : Option Addr} {c n : Nat} {zs : List Value} (h : W.ownsRow w.heap.size TP 3 (.slice a n c) n zs) (hb : Below w.heap.size w W) (hg : W.grownBy W' (Value.slice a 0 0).ownBlock) : Below w.heap.size w W' := by
  have k1 : Keeps (fun k => w.heap.size ≤ k) W W' := (Keeps.refl _ _).grown hg (fun k hk _ => (h.lt k (by rw [own_blk]; exact hk)).1)
  exact k1.after hb (fun _ h => h) hb.size
theorem row_firstN {W W' : World} (hg : W.grownBy W' (Value.slice none 0 0).ownBlock) : Below W.heap.size W W' := row_first hg
set_option maxHeartbeats 4000000 in
theorem lent_any (A : Option Addr) (n c : Nat) (l : List Pk) (w : World) (hl : Lies w 3 A n (l.flatMap val)) (hn : n ≤ 100) (hc : n ≤ c) :
    Calls Try.prog 18 #[.slice A n c] w (LentOut n l w) := by
  obtain ⟨i0, hi, hz0, hz1, hz2⟩ := info_parts infoE
  have ones : ∀ u ∈ l.flatMap val, u.oneCell' = true := one_val l
  have onem : ∀ u ∈ markP, u.oneCell' = true := by intro u hu; simp [markP] at hu; rcases hu with rfl | rfl | rfl <;> rfl
  go_enter Try.func18, Try.ntmps18
  go_wp2_with (first
    | (at_builtin; refine wpList_append_lie _ rfl _ (.tmp 3) 36 rfl w.heap.size TP i0 _ 3 32 Try.underlying36 hi hz0 hz1 hz2 rfl (by decide) none 0 0 [] rfl (World.ownsRow_nil _ _ _ _) A n c (l.flatMap val) rfl hl ones (by unfold maxLen; omega) (by omega) (Nat.le_refl _) ?_; intro a4 c4 w4 ho4 hg4 hat4; (simp only [Nat.zero_add, List.nil_append] at ho4 ⊢); have B4 := row_firstN hg4; have B4a := belowNew B4 (.cells #[.int .i64 (-77), .int .i64 0, .string ⟨#[]⟩] TP); have ho4a := own_keeps ho4 ((Keeps.refl (fun _ => False) w4).alloc (.cells #[.int .i64 (-77), .int .i64 0, .string ⟨#[]⟩] TP)) (fun _ _ h => h); have hl4a : Lies (w4.alloc (.cells #[.int .i64 (-77), .int .i64 0, .string ⟨#[]⟩] TP)) 3 (some ⟨w4.heap.size, 0, none⟩) 1 markP := (by have := Lies.of_blk (Blk.new w4 TP #[.int .i64 (-77), .int .i64 0, .string ⟨#[]⟩]); exact ⟨rfl, fun _ => this.2 (by simp)⟩); clear hg4 hat4)
    | (at_builtin; refine wpList_append_lie _ rfl _ (.tmp 6) 36 rfl w.heap.size TP i0 _ 3 32 Try.underlying36 hi hz0 hz1 hz2 rfl (by decide) a4 n c4 (l.flatMap val) rfl ho4a (some ⟨w4.heap.size, 0, none⟩) 1 1 markP rfl hl4a onem (by unfold maxLen; omega) (by omega) B4a.size ?_; intro a5 c5 w5 ho5 hg5 hat5; have B5 := row_moreN ho4a B4a hg5; obtain ⟨b5, rfl, hc5, L5⟩ := lent_of ho5 B5; have d5 : (n : Int) ≤ (c5 : Int) := (by omega); have H5 := Lib.hid L5; clear ho5 hg5 hat5 ho4 ho4a hl4a))
  go_ret
  exact H5.out
/-- What stands: the row that was lent, unturned, beside what came in. -/
theorem lent_cells {W : World} {b n : Nat} {cur : Array Value} {l : List Pk} (hb : Blk W b TP cur) (hc : ∀ (j : Nat) (u : Value), (l.flatMap val ++ markP)[j]? = some u → cur[j]? = some u) (hn : l.length = n) :
    (∀ k p, l[k]? = some p → W.cell? ⟨b, k * 3, none⟩ = some (.int .i64 p.f) ∧ W.cell? ⟨b, k * 3 + 1, none⟩ = some (.int .i64 p.t) ∧ W.cell? ⟨b, k * 3 + 2, none⟩ = some (.string p.d)) ∧ W.cell? ⟨b, n * 3, none⟩ = some (.int .i64 (-77)) := by
  have hfl : (l.flatMap val).length = n * 3 := by rw [flat_len val_len, hn]
  refine ⟨fun k p hp => ?_, ?_⟩
  · have hk : k < l.length := by
      rcases Nat.lt_or_ge k l.length with h | h
      · exact h
      · rw [List.getElem?_eq_none h] at hp; cases hp
    have hx : l[k] = p := by rw [List.getElem?_eq_getElem hk] at hp; injection hp
    have hcc : ∀ j u, j < 3 → (val p)[j]? = some u → W.cell? ⟨b, k * 3 + j, none⟩ = some u := fun j u hj hu => by
      rw [hb.cell]
      refine hc _ _ ?_
      rw [List.getElem?_append_left (by omega), flat_at val_len l k j hk hj, hx, hu]
    have h0 := hcc 0 _ (by omega) rfl
    rw [Nat.add_zero] at h0
    exact ⟨h0, hcc 1 _ (by omega) rfl, hcc 2 _ (by omega) rfl⟩
  · rw [hb.cell]
    refine hc _ _ ?_
    rw [List.getElem?_append_right (by omega), hfl, Nat.sub_self]
    rfl
set_option maxHeartbeats 4000000 in
theorem samep_any (w : World) (b n c : Nat) (A : Option Addr) (c2 : Nat) (l : List Pk) (hl : l.length = n) (h1 : ∀ k p, l[k]? = some p → w.cell? ⟨b, k * 3, none⟩ = some (.int .i64 p.f) ∧ w.cell? ⟨b, k * 3 + 1, none⟩ = some (.int .i64 p.t) ∧ w.cell? ⟨b, k * 3 + 2, none⟩ = some (.string p.d)) (h2 : Lies w 3 A n (l.flatMap val)) (hA : 0 < n → ∃ b off, A = some ⟨b, off, none⟩) (hn : n ≤ 100) (hc : n ≤ c) (hc2 : n ≤ c2) :
    Calls Try.prog 39 #[.slice (some ⟨b, 0, none⟩) n c, .slice A n c2] w fun e w' => e = .returned (.bool true) ∧ ∃ m, w' = w.drewN m := by
  have H1 := Lib.hid h1
  have H2 := Lib.hid h2
  have HL := Lib.hid hl
  clear h1 h2 hl
  go_enter Try.func39, Try.ntmps39
  go_wp2
  go_loopw [5] (fun i wr => ∃ k : Nat, k ≤ n ∧ i = .int .i64 (k : Int) ∧ ∃ m, wr = w.drewN m) (fun i _ => n - (intOf i).toNat)
  case atStart => exact ⟨0, by omega, rfl, 0, rfl⟩
  case round =>
    obtain ⟨k, hk, rfl, m, rfl⟩ := hrel
    by_cases hlt : k < n
    · obtain ⟨b2, off, rfl⟩ := hA (by omega)
      obtain ⟨p, hp⟩ : ∃ p, l[k]? = some p := ⟨_, List.getElem?_eq_getElem (by rw [HL.out]; exact hlt)⟩
      obtain ⟨x0, x1, x2⟩ := lies3 H2.out hlt hp
      obtain ⟨y0, y1, y2⟩ := H1.out k p hp
      have e1 : IntKind.i64.wrap ((k : Int) + 1) = (k : Int) + 1 := IntWalk.i64_in _ (by omega)
      have q0 : (p.f == p.f) = true := by simp
      have q1 : (p.t == p.t) = true := by simp
      have q2 : (p.d.toList == p.d.toList) = true := by simp
      have d1 : (k : Int) < (c : Int) := by omega
      have d2 : (k : Int) < (c2 : Int) := by omega
      clear hp
      go_wp2_with fail
      go_quiet (fail)
      go_wp2_with fail
      go_roundw
      case rel => exact ⟨k + 1, by omega, by go_num, m + nq, rfl⟩
      case measure => simp [intOf]; omega
    · obtain rfl : k = n := by omega
      go_wp2
      go_ret
      exact ⟨rfl, m, rfl⟩
set_option maxHeartbeats 4000000 in
theorem stays_any (w : World) (b n c : Nat) (cur : Array Value) (A : Option Addr) (c2 : Nat) (l : List Pk) (hl : l.length = n) (hb : Blk w b TP cur) (hcur : ∀ (j : Nat) (u : Value), (l.flatMap val ++ markP)[j]? = some u → cur[j]? = some u) (h2 : Lies w 3 A n (l.flatMap val)) (hA : 0 < n → ∃ b off, A = some ⟨b, off, none⟩) (hn : n ≤ 100) (hc : n + 1 ≤ c) (hcm : c ≤ maxLen) (hc2 : n ≤ c2) :
    Calls Try.prog 21 #[.slice (some ⟨b, 0, none⟩) n c, .slice A n c2] w fun e w' => e = .returned (.bool true) ∧ Below w.heap.size w w' := by
  obtain ⟨h1, hm⟩ := lent_cells hb hcur hl
  have ks := samep_any w b n c A c2 l hl h1 h2 hA hn (by omega) hc2
  unfold maxLen at hcm
  have e1 : IntKind.i64.wrap ((n : Int) + 1) = (n : Int) + 1 := IntWalk.i64_in _ (by omega)
  have d1 : (0 : Int) ≤ (n : Int) + 1 := by omega
  have d2 : (n : Int) + 1 ≤ (c : Int) := by omega
  have d3 : ((n : Int) + 1).toNat = n + 1 := by omega
  have d4 : (n : Int) < (n : Int) + 1 := by omega
  clear h1 h2 hA hl hb hcur
  go_enter Try.func21, Try.ntmps21
  go_wp2_with (go_at_call 39; refine ks.mono ?_; rintro e w1 ⟨rfl, m, rfl⟩)
  go_ret
  exact ⟨rfl, belowDrewN (belowSame _) _⟩
end Go.Proofs.Ytanhdcffbdhkcaa.NP
