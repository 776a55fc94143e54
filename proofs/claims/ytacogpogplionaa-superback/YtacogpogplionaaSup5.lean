/- super: a disk with a block beside it; lay. No condition. -/
import Derived.Test.YtacogpogplionaaSup4
namespace Go.Proofs.Ytacogpogplionaa.SU
set_option maxRecDepth 100000
open Go.RowKit Go.Proofs.Ytacogpogplionaa.WI Go.Proofs.Ytacogpogplionaa.SM Go.Proofs.Ytacogpogplionaa.DK
set_option linter.unusedVariables false
set_option linter.unusedSimpArgs false

/-- A disk, and a block beside it that its calls leave. -/
def Own2 (w0 : World) (g N : Nat) (D : Dk) (x : Nat) (T : TypeId) (cs : Array Value) (W : World) : Prop :=
  ∃ p, DiskAt W w0.heap.size g p N D ∧ Below w0.heap.size w0 W ∧ Blk W x T cs ∧ ¬ fp g p x
section
variable {w0 W W' : World} {g N N' x : Nat} {D D' : Dk} {T : TypeId} {cs : Array Value}
theorem Own2.own (h : Own2 w0 g N D x T cs W) : Own w0 g N D W := by obtain ⟨p, h1, h2, _⟩ := h; exact ⟨p, h1, h2⟩
theorem Own2.blk (h : Own2 w0 g N D x T cs W) : Blk W x T cs := by obtain ⟨p, _, _, h3, _⟩ := h; exact h3
theorem Own2.then_ (h : Own2 w0 g N D x T cs W) (hb : Below W.heap.size W W') : Own2 w0 g N D x T cs W' := by
  obtain ⟨p, h1, h2, h3, h4⟩ := h
  exact ⟨p, h1.old hb, belowThen h2 hb, h3.below hb h3.lt, h4⟩
theorem Own2.of {p : Pl} (h : DiskAt W w0.heap.size g p N D) (hb : Below w0.heap.size w0 W) (hx : Blk W x T cs) (hn : ¬ fp g p x) (ho : DiskOut W w0.heap.size g p N' D' W') : Own2 w0 g N' D' x T cs W' := by
  obtain ⟨p', h1, h2, h3, _⟩ := ho
  refine ⟨p', h1, h2.after hb h.ge h.base, hx.keeps h2 hn, fun hk => ?_⟩
  rcases h3 x hk with h5 | h5
  · exact hn h5
  · have := hx.lt; omega
theorem Own.beside (h : Own w0 g N D W) (T : TypeId) (cs : Array Value) : Own2 w0 g N D W.heap.size T cs (W.alloc (.cells cs T)) := by
  obtain ⟨p, h1, h2⟩ := h
  exact ⟨p, h1.alloc _, belowNew h2 _, Blk.new _ _ _, fun hk => by have := h1.lt _ hk; omega⟩
theorem own2_fence (h : Own2 w0 g N D x T cs W) (n : Int) (hN : N ≤ 10000000) : Calls Try.prog 24 #[.pointer (some ⟨g, 0, none⟩), .int .i64 n] W fun e' w' => e' = .returned (.int .i64 (fenceE D n)) ∧ Own2 w0 g N (fenceK D n) x T cs w' := by
  obtain ⟨p, h1, h2, h3, h4⟩ := h
  exact (fence_any h1 n (by omega)).mono fun _ _ ⟨he, ho⟩ => ⟨he, Own2.of h1 h2 h3 h4 ho⟩
theorem own2_put (h : Own2 w0 g N D x T cs W) (n v : Int) (hN : N ≤ 10000000) : Calls Try.prog 25 #[.pointer (some ⟨g, 0, none⟩), .int .i64 n, .int .u64 v] W fun e' w' => e' = .returned (.int .i64 (fenceE D n)) ∧ Own2 w0 g N (putK D n v) x T cs w' := by
  obtain ⟨p, h1, h2, h3, h4⟩ := h
  exact (put_any h1 n v (by omega)).mono fun _ _ ⟨he, ho⟩ => ⟨he, Own2.of h1 h2 h3 h4 ho⟩
theorem own2_admit (h : Own2 w0 g N D x T cs W) (n e : Int) (hN : N ≤ 10000000) : Calls Try.prog 27 #[.pointer (some ⟨g, 0, none⟩), .int .i64 n, .int .u64 e] W fun e' w' => e' = .returned (.int .i64 (admitE D n e)) ∧ Own2 w0 g N (admitK D n e) x T cs w' := by
  obtain ⟨p, h1, h2, h3, h4⟩ := h
  exact (admit_any h1 n e (by omega)).mono fun _ _ ⟨he, ho⟩ => ⟨he, Own2.of h1 h2 h3 h4 ho⟩
theorem own_sectors (h : Own w0 g N D W) : Calls Try.prog 23 #[.pointer (some ⟨g, 0, none⟩)] W fun e' w' => e' = .returned (.int .i64 (D.room : Int)) ∧ w' = W := by obtain ⟨p, h1, h2⟩ := h; exact sectors_any h1
end
theorem Up.settle {D : Dk} {e : Int} (h : Up D e) (n : Int) : Up (settleK D n) e := ⟨h.on, h.armed, h.table, h.e⟩
theorem Up.barrier {D : Dk} {e : Int} (h : Up D e) : barrierE D 0 e = 0 ∧ barrierK D 0 e = settleK D 0 := barrier_good h.on rfl h.armed h.table h.e
/-- The disk behind lay. -/
def layK (D : Dk) (e : Int) (s : Sh) : Dk := barrierK (writeK (barrierK (zK D e (sizeI s) (zRounds (sizeI s))) 0 e) 0 e 0 (superT s)) 0 e
theorem size_b {s : Sh} (h : Good s) : 1 ≤ sizeI s ∧ sizeI s ≤ 20000 := by
  have h1 := mul_le s.n s.l h.n h.l
  have h2 := h.b
  unfold sizeI
  omega
theorem lay_parts {D : Dk} {e : Int} {s : Sh} (hu : Up D e) (hg : Good s) (hr : sizeI s ≤ (D.room : Int)) :
    writeE (barrierK (zK D e (sizeI s) (zRounds (sizeI s))) 0 e) 0 e 0 (superT s) = 0 ∧ barrierE (writeK (barrierK (zK D e (sizeI s) (zRounds (sizeI s))) 0 e) 0 e 0 (superT s)) 0 e = 0 ∧
    layK D e s = settleK (oneK (settleK (zK D e (sizeI s) (zRounds (sizeI s))) 0) 0 0 (superT s)) 0 ∧ Up (layK D e s) e ∧ (layK D e s).room = D.room := by
  have hb := size_b hg
  obtain ⟨z1, z2⟩ := z_up hu hr (zRounds (sizeI s)) (by unfold zRounds; omega)
  have hb1 := z1.barrier.2
  have z3 := z1.settle 0
  have hw := write_one (n := 0) (a := 0) z3.on rfl z3.armed z3.table z3.e (superT_size s) (Int.le_refl 0) (by show (0 : Int) + 1 ≤ ((zK D e (sizeI s) (zRounds (sizeI s))).room : Int); rw [z2]; omega)
  have z4 : Up (oneK (settleK (zK D e (sizeI s) (zRounds (sizeI s))) 0) 0 0 (superT s)) e := ⟨z3.on, z3.armed, z3.table, z3.e⟩
  unfold layK
  rw [hb1, hw.2, z4.barrier.2]
  exact ⟨hw.1, z4.barrier.1, rfl, z4.settle 0, z2⟩
set_option maxHeartbeats 4000000 in
theorem lay_any {w0 W : World} {g N : Nat} {D : Dk} (h : Own w0 g N D W) (e : Int) (s : Sh) (hu : Up D e) (hg : Good s) (hr : sizeI s ≤ (D.room : Int)) (hN : N ≤ 1000000) :
    Calls Try.prog 28 #[.pointer (some ⟨g, 0, none⟩), .int .u64 e, sagg s] W fun x w' => x = .returned (.int .i64 0) ∧ Own w0 g (N + 16 * zRounds (sizeI s) + 16) (layK D e s) w' := by
  have hb := size_b hg
  obtain ⟨p1, p2, _, _, _⟩ := lay_parts hu hg hr
  have kp := fun W => put_ok s hg W
  have ks := fun W => size_ok s hg W
  have kz := fun W (h : Own w0 g N D W) => zeros_any h e (sizeI s) hu hb hr hN
  have hzr : zRounds (sizeI s) ≤ 1251 := by unfold zRounds; omega
  have kw := fun W (h : Own w0 g (N + 16 * zRounds (sizeI s)) (barrierK (zK D e (sizeI s) (zRounds (sizeI s))) 0 e) W) => own_write h 0 e 0 (superT s) (by rw [superT_size]; omega) (by omega)
  rw [p1] at kw
  have kb := fun W (h : Own w0 g (N + 16 * zRounds (sizeI s) + 16) (writeK (barrierK (zK D e (sizeI s) (zRounds (sizeI s))) 0 e) 0 e 0 (superT s)) W) => own_barrier h 0 e (by omega)
  rw [p2] at kb
  have hl : layK D e s = barrierK (writeK (barrierK (zK D e (sizeI s) (zRounds (sizeI s))) 0 e) 0 e 0 (superT s)) 0 e := rfl
  rw [hl]
  have HO := Lib.hid (h.then_ (belowNew (belowSame W) (.cells (scells s) TSh)))
  have HBN := Lib.hid (Blk.new W TSh (scells s))
  unfold sagg at *
  generalize writeK (barrierK (zK D e (sizeI s) (zRounds (sizeI s))) 0 e) 0 e 0 (superT s) = D4 at *
  generalize barrierK (zK D e (sizeI s) (zRounds (sizeI s))) 0 e = D3 at *
  generalize superT s = ST at *
  generalize zRounds (sizeI s) = Z at *
  generalize sizeI s = SZ at *
  clear h hu hg hl p1 p2 hzr
  go_enter Try.func28, Try.ntmps28
  go_wp2_with (first
    | (go_at_call 10; refine (kp _).mono ?_; rintro x w1 ⟨rfl, hb1⟩; have bk := HBN.out.below hb1 HBN.out.lt; have c0 : w1.cell? ⟨W.heap.size, 0, none⟩ = some (.int .i64 s.n) := bk.cell 0; have c1 : w1.cell? ⟨W.heap.size, 1, none⟩ = some (.int .i64 s.b) := bk.cell 1; have c2 : w1.cell? ⟨W.heap.size, 2, none⟩ = some (.int .i64 s.l) := bk.cell 2; have c3 : w1.cell? ⟨W.heap.size, 3, none⟩ = some (.int .i64 s.c) := bk.cell 3; have c4 : w1.cell? ⟨W.heap.size, 4, none⟩ = some (.int .i64 s.e) := bk.cell 4; have H1 := Lib.hid (HO.out.then_ hb1); clear hb1 bk)
    | (go_at_call 9; refine (ks _).mono ?_; rintro x w2 ⟨rfl, hb2⟩; have H2 := Lib.hid (H1.out.then_ hb2); clear hb2)
    | (go_at_call 41; refine (kz _ H2.out).mono ?_; rintro x w3 ⟨rfl, ho3⟩; have H3 := Lib.hid ho3; clear ho3)
    | (go_at_call 42; refine (kw _ H3.out).mono ?_; rintro x w4 ⟨rfl, ho4⟩; have H4 := Lib.hid ho4; clear ho4)
    | (go_at_call 43; refine (kb _ H4.out).mono ?_; rintro x w5 ⟨rfl, ho5⟩; have H5 := Lib.hid ho5; clear ho5))
  exact end_ret (t := 6) (v := .int .i64 0) (by kernel_rfl) rfl rfl ⟨rfl, H5.out⟩
end Go.Proofs.Ytacogpogplionaa.SU
