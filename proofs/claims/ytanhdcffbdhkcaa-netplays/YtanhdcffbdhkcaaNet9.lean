/- NetPlays: plain. No condition. -/
import Derived.Test.YtanhdcffbdhkcaaNet8
namespace Go.Proofs.Ytanhdcffbdhkcaa.NP
set_option maxRecDepth 100000
open Go.RowKit Go.Proofs.Ytanhdcffbdhkcaa.RP Go.Proofs.Ytanhdcffbdhkcaa.CM Go.Proofs.Ytanhdcffbdhkcaa.NT
set_option linter.unusedVariables false

theorem infoK : (Try.prog.info? RK).map (fun i => (i.zero, i.size, i.bytes)) = some (some (agg pk0), 3, 32) := by kernel_rfl
def RowOut (n : Nat) (l : List Pk) (w : World) (e : Ending) (w' : World) : Prop := ∃ a c, e = .returned (.slice a n c) ∧ w'.ownsRow w.heap.size RK 3 (.slice a n c) n (l.flatMap val) ∧ Below w.heap.size w w'
theorem row_more {w W W' : World} {a a' : Option Addr} {c : Nat} {n : Nat} {zs : List Value} (h : W.ownsRow w.heap.size RK 3 (.slice a n c) n zs) (hb : Below w.heap.size w W) (hg : W.grownBy W' (Value.slice a 0 0).ownBlock) : Below w.heap.size w W' := by
  have k1 : Keeps (fun k => w.heap.size ≤ k) W W' := (Keeps.refl _ _).grown hg (fun k hk _ => (h.lt k (by rw [own_blk]; exact hk)).1)
  exact k1.after hb (fun _ h => h) hb.size
set_option maxHeartbeats 1000000 in
theorem plain_any (A : Option Addr) (n c : Nat) (l : List Pk) (w : World) (hl : Lies w 3 A n (l.flatMap val)) (hA : 0 < n → ∃ b off, A = some ⟨b, off, none⟩) (hn : n ≤ 60) :
    Calls Try.prog 20 #[.slice A n c] w (RowOut n l w) := by
  have hln : l.length = n := by have := hl.1; rw [flat_len val_len] at this; omega
  have HL := Lib.hid hl
  have HN := Lib.hid hln
  clear hl hln
  obtain ⟨i0, hi, hz0, hz1, hz2⟩ := info_parts infoK
  go_enter Try.func20, Try.ntmps20
  go_wp2
  go_loopw [3, 4] (fun s i wr => ∃ (k : Nat) (a' : Option Addr) (c' : Nat), k ≤ n ∧ i = .int .i64 (k : Int) ∧ s = .slice a' k c' ∧ Hid (wr.ownsRow w.heap.size RK 3 (.slice a' k c') k ((l.take k).flatMap val)) ∧ Below w.heap.size w wr) (fun _ i _ => n - (intOf i).toNat)
  case atStart => exact ⟨0, none, 0, by omega, rfl, rfl, Lib.hid (World.ownsRow_nil _ _ _ _), belowSame _⟩
  case round =>
    obtain ⟨k, a', c', hk, rfl, rfl, HR, hB⟩ := hrel
    by_cases hlt : k < n
    · obtain ⟨b, off, rfl⟩ := hA (by omega)
      obtain ⟨p, hp⟩ : ∃ p, l[k]? = some p := ⟨_, List.getElem?_eq_getElem (by rw [HN.out]; exact hlt)⟩
      obtain ⟨x0, x1, x2⟩ := lies3 (HL.out.old (by decide) hB) hlt hp
      have HP := Lib.hid hp
      clear hp
      have hBA := belowNew (belowDrew hB) (.cells #[.int .i64 p.f, .int .i64 p.t, .string p.d] RK)
      have r2 := own_keeps HR.out (((Keeps.refl (fun _ => False) wr).drew).alloc (.cells #[.int .i64 p.f, .int .i64 p.t, .string p.d] RK)) (fun _ _ h => h)
      have HBA := Lib.hid hBA
      clear hBA
      have hfin : ∀ (w3 : World) (a3 : Option Addr) (c3 : Nat), w3.ownsRow w.heap.size RK 3 (.slice a3 (k + 1) c3) (k + 1) ((l.take k).flatMap val ++ val p) → w3.ownsRow w.heap.size RK 3 (.slice a3 (k + 1) c3) (k + 1) ((l.take (k + 1)).flatMap val) := by
        intro w3 a3 c3 h
        rw [List.take_add_one, HP.out]
        simpa using h
      have HF := Lib.hid hfin
      clear hfin
      have hmx : k + 1 ≤ maxLen := by unfold maxLen; omega
      have hlA : Lies (wr.drew.alloc (.cells #[.int .i64 p.f, .int .i64 p.t, .string p.d] RK)) 3 (some ⟨wr.heap.size, 0, none⟩) 1 (val p) := by
        have := Lies.of_blk (Blk.new wr.drew RK #[.int .i64 p.f, .int .i64 p.t, .string p.d])
        exact ⟨rfl, fun _ => this.2 (by simp)⟩
      have hb1 := HBA.out.size
      go_wp2_with fail
      go_region_law (refine step_append_lie _ rfl (.tmp 11) (.tmp 28) 40 rfl w.heap.size RK i0 _ 3 32 Try.underlying40 hi hz0 hz1 hz2 rfl (by decide) a' k c' ((l.take k).flatMap val) (by go_simp) r2 (some ⟨wr.heap.size, 0, none⟩) 1 1 (val p) (by go_simp) hlA (by intro u hu; simp [val] at hu; rcases hu with rfl | rfl | rfl <;> rfl) hmx (by omega) hb1 ?_; intro a3 c3 w3 ho3 hg3 hat3; have R3 := Lib.hid (HF.out _ _ _ ho3); have B3 := Lib.hid (row_more (a' := a3) r2 HBA.out hg3); clear ho3 hg3 hat3)
      all_goals
        go_wp2_with fail
        go_roundw
        case rel => exact ⟨k + 1, a3, c3, by omega, by go_num, rfl, R3, B3.out⟩
        case measure => simp [intOf]; omega
    · obtain rfl : k = n := by omega
      have hr : wr.ownsRow w.heap.size RK 3 (.slice a' k c') k (l.flatMap val) := by have := HR.out; rwa [List.take_of_length_le (by have := HN.out; omega)] at this
      have HR2 := Lib.hid hr
      clear hr
      go_wp2
      go_ret
      exact ⟨a', c', rfl, HR2.out, hB⟩
end Go.Proofs.Ytanhdcffbdhkcaa.NP
