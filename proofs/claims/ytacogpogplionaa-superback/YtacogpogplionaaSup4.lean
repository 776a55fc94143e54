/- super: zeros, lay, Format. No condition. -/
import Derived.Test.YtacogpogplionaaSup3
import Derived.Test.YtacogpogplionaaDkEval
import Derived.Test.YtacogpogplionaaShelf
namespace Go.Proofs.Ytacogpogplionaa.SU
set_option maxRecDepth 100000
open Go.RowKit Go.Proofs.Ytacogpogplionaa.WI Go.Proofs.Ytacogpogplionaa.SM Go.Proofs.Ytacogpogplionaa.DK
set_option linter.unusedVariables false
set_option linter.unusedSimpArgs false

/-- A disk that is on, is not armed, and admits node 0 with the epoch e. -/
structure Up (D : Dk) (e : Int) : Prop where
  on : D.on = true
  armed : D.armed = false
  table : D.table 0 = e
  e : e ≠ 0
def zLen (size : Int) (k : Nat) : Nat := min 16 (size - 16 * (k : Int)).toNat
def zK (D : Dk) (e size : Int) : Nat → Dk
  | 0 => D
  | k + 1 => writeK (zK D e size k) 0 e (16 * (k : Int)) (zerosT (64 * zLen size k))
theorem z_step {D : Dk} {e size : Int} (h : Up D e) (k : Nat) (hk : 16 * (k : Int) < size) (hr : size ≤ (D.room : Int)) :
    writeE D 0 e (16 * (k : Int)) (zerosT (64 * zLen size k)) = 0 ∧ writeK D 0 e (16 * (k : Int)) (zerosT (64 * zLen size k)) = manyK D 0 (16 * (k : Int)) (zerosT (64 * zLen size k)) (zLen size k) := by
  have hz : 1 ≤ zLen size k ∧ zLen size k ≤ 16 ∧ 16 * (k : Int) + (zLen size k : Int) ≤ size := by unfold zLen; omega
  exact write_good (c := zLen size k) h.on rfl h.armed h.table h.e (by rw [zerosT_size]) ⟨hz.1, hz.2.1⟩ ⟨by omega, by omega⟩
theorem z_up {D : Dk} {e size : Int} (h : Up D e) (hr : size ≤ (D.room : Int)) : ∀ k : Nat, 16 * ((k : Int) - 1) < size → Up (zK D e size k) e ∧ (zK D e size k).room = D.room := by
  intro k
  induction k with
  | zero => intro _; exact ⟨h, rfl⟩
  | succ k ih =>
    intro hk
    obtain ⟨i1, i2⟩ := ih (by omega)
    have hs := (z_step (size := size) i1 k (by omega) (by rw [i2]; exact hr)).2
    obtain ⟨f1, f2, f3, f4, f5, f6, _⟩ := many_fields (zK D e size k) 0 (16 * (k : Int)) (zerosT (64 * zLen size k)) (zLen size k)
    show Up (writeK (zK D e size k) 0 e (16 * (k : Int)) (zerosT (64 * zLen size k))) e ∧ (writeK (zK D e size k) 0 e (16 * (k : Int)) (zerosT (64 * zLen size k))).room = D.room
    rw [hs]
    exact ⟨⟨f1.trans i1.on, f6.trans i1.armed, by rw [f3]; exact i1.table, i1.e⟩, f2.trans i2⟩
def zRounds (size : Int) : Nat := ((size + 15) / 16).toNat
set_option maxHeartbeats 4000000 in
theorem zeros_any {w0 W : World} {g N : Nat} {D : Dk} (h : Own w0 g N D W) (e size : Int) (hu : Up D e) (hs : 1 ≤ size ∧ size ≤ 20000) (hr : size ≤ (D.room : Int)) (hN : N ≤ 1000000) :
    Calls Try.prog 41 #[.pointer (some ⟨g, 0, none⟩), .int .u64 e, .int .i64 size] W fun x w' => x = .returned (.int .i64 0) ∧ Own w0 g (N + 16 * zRounds size) (barrierK (zK D e size (zRounds size)) 0 e) w' := by
  have HO := Lib.hid h
  have HU := Lib.hid (fun k hk => z_up hu hr k hk)
  have HS := Lib.hid (fun (k : Nat) (hk : 16 * (k : Int) < size) => z_step (z_up hu hr k (by omega)).1 k hk (by rw [(z_up hu hr k (by omega)).2]; exact hr))
  have hr0 := hu.e
  clear h hu
  go_enter Try.func41, Try.ntmps41
  go_wp2_with fail
  go_loopw [7, 8, 9] (fun i _ _ wr => ∃ k : Nat, i = .int .i64 (16 * (k : Int)) ∧ k ≤ zRounds size ∧ Hid (Own w0 g (N + 16 * k) (zK D e size k) wr)) (fun i _ _ _ => (size - intOf i + 16).toNat)
  case atStart => exact ⟨0, rfl, Nat.zero_le _, HO⟩
  case round =>
    obtain ⟨k, rfl, hk, HW⟩ := hrel
    by_cases hlt : 16 * (k : Int) < size
    · obtain ⟨z1, _⟩ := HS.out k hlt
      have hzl : ((zLen size k : Nat) : Int) = min 16 (size - 16 * (k : Int)) := by unfold zLen; omega
      have hz2 : 1 ≤ zLen size k ∧ zLen size k ≤ 16 := by unfold zLen; omega
      have hk3 : N + 16 * k ≤ 10000000 := by unfold zRounds at hk; omega
      have kw := fun W (h : Own w0 g (N + 16 * k) (zK D e size k) W) => own_write h 0 e (16 * (k : Int)) (zerosT (64 * zLen size k)) (by rw [zerosT_size]; omega) hk3
      rw [z1] at kw
      have kr := fun W => Try.strings_Repeat (ByteArray.mk #[0]) (64 * zLen size k) W (by omega) (by show 1 * _ ≤ _; omega)
      obtain ⟨Z, hZ⟩ : ∃ Z, zLen size k = Z := ⟨_, rfl⟩
      have c1 : decide (16 * (k : Int) < size) = true := by simpa using hlt
      have e1 : IntKind.i64.wrap (size - 16 * (k : Int)) = size - 16 * (k : Int) := IntWalk.i64_in _ (by omega)
      have e2 : IntKind.i64.wrap ((Z : Int) * 64) = ((64 * Z : Nat) : Int) := by rw [IntWalk.i64_in _ (by omega)]; omega
      have e3 : IntKind.i64.wrap (16 * (k : Int) + 16) = 16 * ((k : Int) + 1) := by rw [IntWalk.i64_in _ (by omega)]; omega
      have hmin : min 16 (size - 16 * (k : Int)) = (Z : Int) := by rw [← hZ, hzl]
      have hzk : zK D e size (k + 1) = writeK (zK D e size k) 0 e (16 * (k : Int)) (zerosT (64 * zLen size k)) := rfl
      rw [hZ] at kw kr hzk
      have HZK := Lib.hid hzk
      clear z1 hzl hz2 hZ hzk
      have hk4 : k + 1 ≤ zRounds size := by unfold zRounds at hk ⊢; omega
      go_wp2_with (first
        | (go_at_call 32; refine (kr _).mono ?_; rintro x w4 ⟨rfl, hb4⟩; have HW4 := Lib.hid (HW.out.then_ hb4); clear hb4)
        | (go_at_call 42; refine (kw _ HW4.out).mono ?_; rintro x w5 ⟨rfl, ho5⟩; have HW5 := Lib.hid ho5; clear ho5))
      go_roundw
      case rel => exact ⟨k + 1, by go_num, hk4, Lib.hid (by rw [HZK.out]; have := HW5.out; rwa [show N + 16 * k + 16 = N + 16 * (k + 1) by omega] at this)⟩
      case measure => simp [intOf]; omega
    · obtain rfl : k = zRounds size := by unfold zRounds at hk ⊢; omega
      have hu2 := (HU.out (zRounds size) (by unfold zRounds; omega)).1
      have kb := own_barrier HW.out 0 e (by unfold zRounds; omega)
      rw [(barrier_good hu2.on rfl hu2.armed hu2.table hu2.e).1] at kb
      have c1 : decide (16 * ((zRounds size : Nat) : Int) < size) = false := by simpa using hlt
      clear hu2
      go_wp2_with (go_at_call 43; refine kb.mono ?_; rintro x w5 ⟨rfl, ho5⟩)
      exact end_ret (t := 6) (v := .int .i64 0) (by kernel_rfl) rfl rfl ⟨rfl, ho5⟩
end Go.Proofs.Ytacogpogplionaa.SU
