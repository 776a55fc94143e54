/- NetPlays: commonsbook.Room, small. No condition. -/
import Derived.Test.YtanhdcffbdhkcaaNet7
namespace Go.Proofs.Ytanhdcffbdhkcaa.NP
set_option maxRecDepth 100000
open Go.RowKit Go.Proofs.Ytanhdcffbdhkcaa.RP Go.Proofs.Ytanhdcffbdhkcaa.CM Go.Proofs.Ytanhdcffbdhkcaa.NT
set_option linter.unusedVariables false

def roomF (left sz : Int) : Int := if left < 0 ∨ left < sz then -1 else left - sz
theorem room_one (left sz : Int) {W : World} {g : Nat} (h : Blk W g 3 #[.int .i64 sz]) (h0 : 0 ≤ sz) (h1 : sz ≤ 9223372036854775807) (h2 : -1 ≤ left) (h3 : left ≤ 1000000000) :
    Calls Try.prog 37 #[.int .i64 left, .slice (some ⟨g, 0, none⟩) 1 1] W fun e w' => e = .returned (.int .i64 (roomF left sz)) ∧ W = w' := by
  have c0 : W.cell? ⟨g, 0, none⟩ = some (.int .i64 sz) := h.cell 0
  clear h
  by_cases a1 : left < 0
  · have r : roomF left sz = -1 := by unfold roomF; rw [if_pos (.inl a1)]
    rw [r]
    clear r
    go_enter Try.func37, Try.ntmps37
    go_wp2
    go_loop [0, 5] (fun x i => x = .int .i64 left ∧ i = .int .i64 0) (fun _ i => 1 - (intOf i).toNat)
    case atStart => exact ⟨rfl, rfl⟩
    case round =>
      obtain ⟨rfl, rfl⟩ := hrel
      go_wp2
      go_ret
      exact ⟨rfl, rfl⟩
  by_cases a2 : left < sz
  · have r : roomF left sz = -1 := by unfold roomF; rw [if_pos (.inr a2)]
    rw [r]
    clear r
    go_enter Try.func37, Try.ntmps37
    go_wp2
    go_loop [0, 5] (fun x i => x = .int .i64 left ∧ i = .int .i64 0) (fun _ i => 1 - (intOf i).toNat)
    case atStart => exact ⟨rfl, rfl⟩
    case round =>
      obtain ⟨rfl, rfl⟩ := hrel
      go_wp2
      go_ret
      exact ⟨rfl, rfl⟩
  · have r : roomF left sz = left - sz := by unfold roomF; rw [if_neg (by omega)]
    rw [r]
    clear r
    go_enter Try.func37, Try.ntmps37
    go_wp2
    go_loop [0, 5] (fun x i => (x = .int .i64 left ∧ i = .int .i64 0) ∨ (x = .int .i64 (left - sz) ∧ i = .int .i64 1)) (fun _ i => 1 - (intOf i).toNat)
    case atStart => exact .inl ⟨rfl, rfl⟩
    case round =>
      rcases hrel with ⟨rfl, rfl⟩ | ⟨rfl, rfl⟩
      · go_wp2
        go_round
        case rel => exact .inr ⟨rfl, rfl⟩
        case measure => simp [intOf]
      · go_wp2
        go_ret
        exact ⟨rfl, rfl⟩

def SmallOut (n : Nat) (l : List Pk) (w : World) (e : Ending) (w' : World) : Prop := ∃ b : Bool, e = .returned (.bool b) ∧ (b = true → n ≤ 60 ∧ ∀ p ∈ l, p.d.size ≤ 6000) ∧ Below w.heap.size w w'
theorem small_any (A : Option Addr) (n c : Nat) (l : List Pk) (w : World) (hl : Lies w 3 A n (l.flatMap val)) (hA : 0 < n → ∃ b off, A = some ⟨b, off, none⟩) (hn : n ≤ maxLen) (hs : ∀ p ∈ l, p.d.size ≤ maxLen) :
    Calls Try.prog 17 #[.slice A n c] w (SmallOut n l w) := by
  unfold maxLen at hn
  have hln : l.length = n := by have := hl.1; rw [flat_len val_len] at this; omega
  have HL := Lib.hid hl
  have HN := Lib.hid hln
  have HB := Lib.hid hs
  clear hl hln hs
  go_enter Try.func17, Try.ntmps17
  go_wp2
  go_loopw [3, 4] (fun x i wr => ∃ (k : Nat) (r : Int), k ≤ n ∧ k ≤ 100 ∧ i = .int .i64 (k : Int) ∧ x = .int .i64 r ∧ -1 ≤ r ∧ r ≤ 6000 ∧ Hid (0 ≤ r → ∀ p ∈ l.take k, p.d.size ≤ 6000) ∧ Below w.heap.size w wr) (fun _ i _ => n - (intOf i).toNat)
  case atStart => exact ⟨0, 6000, by omega, by omega, rfl, rfl, by omega, by omega, Lib.hid (fun _ p hp => by simp at hp), belowSame _⟩
  case round =>
    obtain ⟨k, r, hk, hk2, rfl, rfl, hr1, hr2, HR, hB⟩ := hrel
    by_cases hlt : k < n
    · by_cases h100 : k < 100
      · by_cases hneg : r < 0
        · have hng : ¬ (0 : Int) ≤ r := by omega
          by_cases h60 : n ≤ 60
          · go_wp2
            go_ret
            exact ⟨false, rfl, (by intro h; cases h), hB⟩
          · go_wp2
            go_ret
            exact ⟨false, rfl, (by intro h; cases h), hB⟩
        · have hge : (0 : Int) ≤ r := by omega
          clear hneg
          obtain ⟨b, off, rfl⟩ := hA (by omega)
          obtain ⟨p, hp⟩ : ∃ p, l[k]? = some p := ⟨_, List.getElem?_eq_getElem (by rw [HN.out]; exact hlt)⟩
          obtain ⟨x0, x1, x2⟩ := lies3 (HL.out.old (by decide) hB) hlt hp
          have hsz := HB.out p (List.mem_of_getElem? hp)
          unfold maxLen at hsz
          have HP := Lib.hid hp
          have kr := room_one r (p.d.size : Int) (Blk.new wr 3 #[.int .i64 (p.d.size : Int)]) (by omega) (by omega) (by omega) (by omega)
          clear hp
          go_wp2_with (go_at_call 37; refine kr.mono ?_; rintro e w' ⟨rfl, rfl⟩)
          go_roundw
          case rel =>
            refine ⟨k + 1, roomF r p.d.size, by omega, by omega, by go_num, rfl, ?_, ?_, Lib.hid ?_, belowNew hB _⟩
            · unfold roomF; split <;> omega
            · unfold roomF; split <;> omega
            · intro h0 q hq
              have hsz2 : p.d.size ≤ 6000 := by unfold roomF at h0; split at h0 <;> omega
              rw [List.take_add_one, HP.out] at hq
              simp at hq
              rcases hq with hq | rfl
              · exact HR.out hge q hq
              · exact hsz2
          case measure => simp [intOf]; omega
      · have h60 : ¬ n ≤ 60 := by omega
        obtain rfl : k = 100 := by omega
        go_wp2
        go_ret
        exact ⟨false, rfl, (by intro h; cases h), hB⟩
    · obtain rfl : k = n := by omega
      have hall : 0 ≤ r → ∀ p ∈ l, p.d.size ≤ 6000 := fun h0 p hp => HR.out h0 p (by rw [List.take_of_length_le (by have := HN.out; omega)]; exact hp)
      have HA := Lib.hid hall
      clear hall
      by_cases h60 : k ≤ 60
      · by_cases hneg : r < 0
        · have hng : ¬ (0 : Int) ≤ r := by omega
          go_wp2
          go_ret
          exact ⟨false, rfl, (by intro h; cases h), hB⟩
        · have hge : (0 : Int) ≤ r := by omega
          go_wp2
          go_ret
          exact ⟨true, rfl, fun _ => ⟨h60, HA.out hge⟩, hB⟩
      · go_wp2
        go_ret
        exact ⟨false, rfl, (by intro h; cases h), hB⟩
end Go.Proofs.Ytanhdcffbdhkcaa.NP
