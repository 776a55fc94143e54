/- Part 3 of the texts that the proof stands on, joined: Wl1, Rec1, Rec2, Rec3, Rec4, Rec5, Rec6, Rec7, Rec8, Rec9, Rec10, Wl2, Wl3, Wl4, Wl5, Wl6, Zeros, Rec11, Rec16, Wl7, Wl8, Wl9. No condition. -/
import Derived.Test.YtakilnpfhljgfaaGreatM2
import Derived.Test.YtakilnpfhljgfaaGreatRingE
import Derived.Deep.RegionHeld3
import Derived.Deep.RegionLaw
import Derived.StillTailTactics
import Derived.Test.YtakilnpfhljgfaaGreatAppend
/- A log in memory: its block, its disk, the ring of its entries, and blocks beside them. No condition. -/
namespace Go.Proofs.YtakilnpfhljgfaaGreat.WL
set_option maxRecDepth 100000
open Go.RowKit Go.Proofs.YtakilnpfhljgfaaGreat.MI Go.Proofs.YtakilnpfhljgfaaGreat.WI Go.Proofs.YtakilnpfhljgfaaGreat.SM Go.Proofs.YtakilnpfhljgfaaGreat.DK Go.Proofs.YtakilnpfhljgfaaGreat.SU Go.Proofs.YtakilnpfhljgfaaGreat.BK
set_option linter.unusedVariables false
set_option linter.unusedSimpArgs false

abbrev TLg : TypeId := 55
abbrev TRg : TypeId := 110
abbrev TEn : TypeId := 78

/-- A disk on which node 1 writes in the epoch 9. -/
structure Fine (D : Dk) : Prop where
  on : D.on = true
  armed : D.armed = false
  room : D.room = 37
  table : D.table 1 = 9
  stays : D.stays = []
theorem fine_of {D : Dk} (h : ReadyD D) : Fine D := ⟨h.on, h.armed, h.room, h.table, h.calm.stays⟩
theorem Fine.wr {D : Dk} (h : Fine D) {a : Int} {b : ByteArray} {c : Nat} (hb : b.size = 64 * c) (hc : 1 ≤ c ∧ c ≤ 16) (ha : 0 ≤ a ∧ a + (c : Int) ≤ 37) : writeE D 1 9 a b = 0 ∧ Fine (writeK D 1 9 a b) := by
  obtain ⟨h1, h2⟩ := write_good (D := D) (n := 1) (e := 9) (a := a) (b := b) (c := c) h.on rfl h.armed h.table (by decide) hb hc ⟨ha.1, by rw [h.room]; exact ha.2⟩
  refine ⟨h1, ?_⟩
  rw [h2]
  obtain ⟨f1, f2, f3, _, _, f6, _, f8, _⟩ := many_fields D 1 a b c
  exact ⟨f1.trans h.on, f6.trans h.armed, f2.trans h.room, by rw [f3]; exact h.table, f8.trans h.stays⟩
theorem Fine.ba {D : Dk} (h : Fine D) : barrierE D 1 9 = 0 ∧ Fine (barrierK D 1 9) := by
  obtain ⟨h1, h2⟩ := barrier_good (D := D) (n := 1) (e := 9) h.on rfl h.armed h.table (by decide)
  refine ⟨h1, ?_⟩
  rw [h2]
  exact ⟨h.on, h.armed, h.room, h.table, h.stays⟩

/-- What a log holds, in plain words. -/
structure Lg where
  next : Int
  first : Int
  pos : Int
  written : Int
  synced : Int
  es : List RE.En
def lcells (d q : Nat) (S : Lg) : Array Value :=
  #[.pointer (some ⟨d, 0, none⟩), .int .i64 2, .int .i64 10, .int .i64 8, .int .i64 4, .int .i64 32, .int .i64 1, .int .u64 9, .int .i64 1,
    .int .u64 S.next, .int .u64 S.first, .int .i64 S.pos, .int .u64 S.written, .int .u64 S.synced, .pointer (some ⟨q, 0, none⟩), .bool false]
structure LogP (W : World) (B g d q N : Nat) (S : Lg) (p : Pl) (D : Dk) (a : Option Addr) (c : Nat) : Prop where
  fine : Fine D
  disk : DiskAt W B d p N D
  ring : RingAtN RE.val 5 TRg TEn W B q 100000 a c S.es
  blk : Blk W g TLg (lcells d q S)
  geg : B ≤ g
  gd : ¬ fp d p g
  gq : ¬ ringF q a g
  dq : Apart (fp d p) (ringF q a)
/-- Block g is a log on the disk d (its ring is q), made since w0; the blocks bl stand beside it. -/
def LogAt (w0 : World) (g d q N : Nat) (S : Lg) (bl : List (Nat × TypeId × Array Value)) (W : World) : Prop :=
  ∃ p D a c, LogP W w0.heap.size g d q N S p D a c ∧ Below w0.heap.size w0 W ∧ ∀ b ∈ bl, Blk W b.1 b.2.1 b.2.2 ∧ ¬ fp d p b.1 ∧ ¬ ringF q a b.1 ∧ b.1 ≠ g
section
variable {w0 W W' : World} {B g d q N N' : Nat} {S S' : Lg} {p : Pl} {D D' : Dk} {a : Option Addr} {c : Nat} {bl bl' : List (Nat × TypeId × Array Value)}
theorem LogAt.bel (h : LogAt w0 g d q N S bl W) : Below w0.heap.size w0 W := by obtain ⟨_, _, _, _, _, h2, _⟩ := h; exact h2
theorem LogAt.blk (h : LogAt w0 g d q N S bl W) : Blk W g TLg (lcells d q S) := by obtain ⟨_, _, _, _, h1, _, _⟩ := h; exact h1.blk
theorem LogAt.ge (h : LogAt w0 g d q N S bl W) : w0.heap.size ≤ g := by obtain ⟨_, _, _, _, h1, _, _⟩ := h; exact h1.geg
theorem LogAt.side (h : LogAt w0 g d q N S bl W) {b : Nat × TypeId × Array Value} (hb : b ∈ bl) : Blk W b.1 b.2.1 b.2.2 := by obtain ⟨_, _, _, _, _, _, h3⟩ := h; exact (h3 b hb).1
theorem LogAt.b0 {x : Nat} {T : TypeId} {cs : Array Value} (h : LogAt w0 g d q N S ((x, T, cs) :: bl) W) : Blk W x T cs := h.side (b := (x, T, cs)) (List.mem_cons_self ..)
theorem LogAt.b1 {x : Nat} {T : TypeId} {cs : Array Value} {y : Nat × TypeId × Array Value} (h : LogAt w0 g d q N S (y :: (x, T, cs) :: bl) W) : Blk W x T cs := h.side (b := (x, T, cs)) (List.mem_cons_of_mem _ (List.mem_cons_self ..))
theorem LogP.then_ (h : LogP W B g d q N S p D a c) (hb : Below W.heap.size W W') : LogP W' B g d q N S p D a c :=
  ⟨h.fine, h.disk.old hb, h.ring.below hb h.ring.lt, h.blk.below hb h.blk.lt, h.geg, h.gd, h.gq, h.dq⟩
theorem LogAt.then_ (h : LogAt w0 g d q N S bl W) (hb : Below W.heap.size W W') : LogAt w0 g d q N S bl W' := by
  obtain ⟨p, D, a, c, h1, h2, h3⟩ := h
  exact ⟨p, D, a, c, h1.then_ hb, belowThen h2 hb, fun b hbl => ⟨(h3 b hbl).1.below hb (h3 b hbl).1.lt, (h3 b hbl).2⟩⟩
theorem LogAt.alloc (h : LogAt w0 g d q N S bl W) (o : Obj) : LogAt w0 g d q N S bl (W.alloc o) := h.then_ (belowNew (belowSame W) o)
theorem LogAt.drew (h : LogAt w0 g d q N S bl W) : LogAt w0 g d q N S bl W.drew := h.then_ (belowDrew (belowSame _))
theorem LogAt.drewN (h : LogAt w0 g d q N S bl W) (n : Nat) : LogAt w0 g d q N S bl (W.drewN n) := h.then_ (belowDrewN (belowSame _) n)
theorem LogAt.less (h : LogAt w0 g d q N S bl W) (hs : ∀ b ∈ bl', b ∈ bl) : LogAt w0 g d q N S bl' W := by
  obtain ⟨p, D, a, c, h1, h2, h3⟩ := h
  exact ⟨p, D, a, c, h1, h2, fun b hb => h3 b (hs b hb)⟩
theorem LogAt.pop {y : Nat × TypeId × Array Value} (h : LogAt w0 g d q N S (y :: bl) W) : LogAt w0 g d q N S bl W := h.less fun b hb => List.mem_cons_of_mem _ hb
theorem LogAt.beside (h : LogAt w0 g d q N S bl W) (T : TypeId) (cs : Array Value) : LogAt w0 g d q N S ((W.heap.size, T, cs) :: bl) (W.alloc (.cells cs T)) := by
  obtain ⟨p, D, a, c, h1, h2, h3⟩ := h
  have hb := belowNew (belowSame W) (.cells cs T)
  refine ⟨p, D, a, c, h1.then_ hb, belowThen h2 hb, fun b hbl => ?_⟩
  rcases List.mem_cons.1 hbl with e | hbl
  · rw [e]
    exact ⟨Blk.new _ _ _, fun hk => by have := h1.disk.lt _ hk; omega, fun hk => by have := h1.ring.lt _ hk; omega, fun e => by have := h1.blk.lt; omega⟩
  · exact ⟨(h3 b hbl).1.alloc _, (h3 b hbl).2⟩
/-- A call of the disk. -/
theorem LogAt.dout (h : LogP W w0.heap.size g d q N S p D a c) (h2 : Below w0.heap.size w0 W) (h3 : ∀ b ∈ bl, Blk W b.1 b.2.1 b.2.2 ∧ ¬ fp d p b.1 ∧ ¬ ringF q a b.1 ∧ b.1 ≠ g) (ho : DiskOut W w0.heap.size d p N' D' W') (hf : Fine D') : LogAt w0 g d q N' S bl W' := by
  obtain ⟨p', k1, k2, k3, _⟩ := ho
  have far : ∀ k, k < W.heap.size → ¬ fp d p k → ¬ fp d p' k := fun k hk hn hk' => by
    rcases k3 k hk' with h5 | h5
    · exact hn h5
    · omega
  refine ⟨p', D', a, c, ⟨hf, k1, h.ring.keeps k2 h.dq.symm, h.blk.keeps k2 h.gd, h.geg, far g h.blk.lt h.gd, h.gq, k3.apart h.dq h.ring.lt⟩, k2.after h2 h.disk.ge h.disk.base, fun b hbl => ?_⟩
  obtain ⟨b1, b2, b3, b4⟩ := h3 b hbl
  exact ⟨b1.keeps k2 b2, far b.1 b1.lt b2, b3, b4⟩
/-- A call of the ring. -/
theorem LogAt.rout {es : List RE.En} (h : LogP W w0.heap.size g d q N S p D a c) (h2 : Below w0.heap.size w0 W) (h3 : ∀ b ∈ bl, Blk W b.1 b.2.1 b.2.2 ∧ ¬ fp d p b.1 ∧ ¬ ringF q a b.1 ∧ b.1 ≠ g) (ho : RingOutN RE.val 5 TRg TEn W w0.heap.size q 100000 a es W') : LogAt w0 g d q N { S with es := es } bl W' := by
  obtain ⟨a', c', k1, k2, k3⟩ := ho
  have far : ∀ k, k < W.heap.size → ¬ ringF q a k → ¬ ringF q a' k := fun k hk hn hk' => by
    rcases k3 k hk' with h5 | h5
    · exact hn h5
    · omega
  refine ⟨p, D, a', c', ⟨h.fine, disk_keeps h.disk h.fine.stays k2 h.dq, k1, h.blk.keeps k2 h.gq, h.geg, h.gd, far g h.blk.lt h.gq, (k3.apart h.dq.symm h.disk.lt).symm⟩, k2.after h2 h.ring.geF h.ring.base, fun b hbl => ?_⟩
  obtain ⟨b1, b2, b3, b4⟩ := h3 b hbl
  exact ⟨b1.keeps k2 b3, b2, far b.1 b1.lt b3, b4⟩
/-- A field of the log is laid anew. -/
theorem LogAt.set (h : LogAt w0 g d q N S bl W) (i : Nat) (u : Value) (hS : (lcells d q S).setIfInBounds i u = lcells d q S') (he : S'.es = S.es) : LogAt w0 g d q N S' bl (W.setCell ⟨g, i, none⟩ u) := by
  obtain ⟨p, D, a, c, h1, h2, h3⟩ := h
  have hk := keep1 W g i u
  refine ⟨p, D, a, c, ⟨h1.fine, disk_keeps h1.disk h1.fine.stays hk (fun k hk1 hk2 => ?_), ?_, ?_, h1.geg, h1.gd, h1.gq, h1.dq⟩, h2.setCell h1.geg _, fun b hbl => ?_⟩
  · have e : k = g := hk2
    exact h1.gd (e ▸ hk1)
  · rw [he]
    exact h1.ring.keeps hk (fun k hk1 hk2 => h1.gq (by have e : k = g := hk2; exact e ▸ hk1))
  · rw [← hS]; exact h1.blk.set_ i u
  · obtain ⟨b1, b2, b3, b4⟩ := h3 b hbl
    exact ⟨b1.keeps hk (fun e => b4 e), b2, b3, b4⟩
/-- A cell of the first block beside it is turned. -/
theorem LogAt.turn {x : Nat} {T : TypeId} {cs : Array Value} (h : LogAt w0 g d q N S ((x, T, cs) :: bl) W) (hx : w0.heap.size ≤ x) (hne : ∀ b ∈ bl, b.1 ≠ x) (i : Nat) (u : Value) : LogAt w0 g d q N S ((x, T, cs.setIfInBounds i u) :: bl) (W.setCell ⟨x, i, none⟩ u) := by
  have hb := h.b0
  obtain ⟨p, D, a, c, h1, h2, h3⟩ := h
  obtain ⟨b1, b2, b3, b4⟩ := h3 _ (List.mem_cons_self ..)
  have hk := keep1 W x i u
  refine ⟨p, D, a, c, ⟨h1.fine, disk_keeps h1.disk h1.fine.stays hk (fun k hk1 hk2 => ?_), h1.ring.keeps hk (fun k hk1 hk2 => ?_), h1.blk.keeps hk (fun e => b4 (Eq.symm e)), h1.geg, h1.gd, h1.gq, h1.dq⟩, h2.setCell hx _, fun b hbl => ?_⟩
  · have e : k = x := hk2
    exact b2 (e ▸ hk1)
  · have e : k = x := hk2
    exact b3 (e ▸ hk1)
  · rcases List.mem_cons.1 hbl with e | hbl
    · rw [e]; exact ⟨hb.set_ i u, b2, b3, b4⟩
    · obtain ⟨c1, c2, c3, c4⟩ := h3 b (List.mem_cons_of_mem _ hbl)
      exact ⟨c1.keeps hk (fun e => hne b hbl e), c2, c3, c4⟩
theorem lwrite (h : LogAt w0 g d q N S bl W) (x : Int) (b : ByteArray) (k : Nat) (hb : b.size = 64 * k) (hk : 1 ≤ k ∧ k ≤ 16) (hx : 0 ≤ x ∧ x + (k : Int) ≤ 37) (hN : N ≤ 10000000) :
    Calls Tryz.prog 75 #[.pointer (some ⟨d, 0, none⟩), .int .i64 1, .int .u64 9, .int .i64 x, .string b] W fun z w' => z = .returned (.int .i64 0) ∧ LogAt w0 g d q (N + 16) S bl w' := by
  obtain ⟨p, D, a, c, h1, h2, h3⟩ := h
  obtain ⟨f1, f2⟩ := h1.fine.wr hb hk hx
  refine (write_any h1.disk 1 9 x b (by omega) hN).mono fun z w' ⟨hz, ho⟩ => ?_
  rw [f1] at hz
  exact ⟨hz, LogAt.dout h1 h2 h3 ho f2⟩
theorem lbarrier (h : LogAt w0 g d q N S bl W) (hN : N ≤ 1000000000) :
    Calls Tryz.prog 48 #[.pointer (some ⟨d, 0, none⟩), .int .i64 1, .int .u64 9] W fun z w' => z = .returned (.int .i64 0) ∧ LogAt w0 g d q N S bl w' := by
  obtain ⟨p, D, a, c, h1, h2, h3⟩ := h
  obtain ⟨f1, f2⟩ := h1.fine.ba
  refine (barrier_any h1.disk 1 9 hN).mono fun z w' ⟨hz, ho⟩ => ?_
  rw [f1] at hz
  exact ⟨hz, LogAt.dout h1 h2 h3 ho f2⟩
/-- The list of the entries, laid anew. -/
theorem llist (h : LogAt w0 g d q N S bl W) :
    Calls Tryz.prog 46 #[.pointer (some ⟨q, 0, none⟩)] W fun z w' => ∃ A C, z = .returned (.slice A S.es.length C) ∧ S.es.length ≤ C ∧ C ≤ maxLen ∧ Seg w' W.heap.size TEn 5 A S.es.length C (S.es.flatMap RE.val) ∧ Below W.heap.size W w' := by
  obtain ⟨p, D, a, c, h1, h2, h3⟩ := h
  refine (RE.list_any h1.ring).mono fun z w' hz => ?_
  obtain ⟨A, C, hz1, hz2, hz3⟩ := hz
  have hs := Seg.of_own hz2
  exact ⟨A, C, hz1, hs.2.1, hs.2.2.1, hs, hz3.belowW⟩
theorem llen (h : LogAt w0 g d q N S bl W) :
    Calls Tryz.prog 51 #[.pointer (some ⟨q, 0, none⟩)] W fun z w' => z = .returned (.int .i64 (S.es.length : Int)) ∧ W = w' := by
  obtain ⟨p, D, a, c, h1, h2, h3⟩ := h
  exact RE.len_any h1.ring
theorem lset (h : LogAt w0 g d q N S bl W) (k : Nat) (x : RE.En) (hk : k < S.es.length) :
    Calls Tryz.prog 53 #[.pointer (some ⟨q, 0, none⟩), .int .i64 (k : Int), RE.agg x] W fun z w' => z = .returned (.bool true) ∧ LogAt w0 g d q N { S with es := S.es.set k x } bl w' := by
  obtain ⟨p, D, a, c, h1, h2, h3⟩ := h
  refine (RE.set_in h1.ring (k : Int) x (by omega) (by omega)).mono fun z w' ⟨hz, hr, hk'⟩ => ?_
  rw [Int.toNat_natCast] at hr
  exact ⟨hz, LogAt.rout h1 h2 h3 ⟨a, c, hr, hk', Grows.refl _ _⟩⟩
theorem lpush (h : LogAt w0 g d q N S bl W) (A : Option Addr) (C : Nat) (hC : 1 ≤ C) (x : RE.En) (hl : Lies W 5 A 1 (RE.val x)) (h0 : S.es.length < 100000) :
    Calls Tryz.prog 43 #[.pointer (some ⟨q, 0, none⟩), .slice A 1 C] W fun z w' => z = .returned (.int .i64 1) ∧ LogAt w0 g d q N { S with es := S.es ++ [x] } bl w' := by
  obtain ⟨p, D, a, c, h1, h2, h3⟩ := h
  have hm : min 1 (100000 - S.es.length) = 1 := by omega
  have k := RE.push_any h1.ring A 1 C (by unfold maxLen; omega) hC [x] (by simpa using hl)
  rw [hm] at k
  refine k.mono fun z w' ⟨hz, ho⟩ => ?_
  exact ⟨hz, LogAt.rout h1 h2 h3 ho⟩
theorem ldrop (h : LogAt w0 g d q N S bl W) (k : Nat) (hk : k ≤ S.es.length) :
    Calls Tryz.prog 50 #[.pointer (some ⟨q, 0, none⟩), .int .i64 (k : Int)] W fun z w' => z = .returned (.int .i64 (k : Int)) ∧ LogAt w0 g d q N { S with es := S.es.drop k } bl w' := by
  obtain ⟨p, D, a, c, h1, h2, h3⟩ := h
  have kk := RE.drop_any h1.ring (k : Int)
  rw [Int.toNat_natCast, Nat.min_eq_left hk] at kk
  refine kk.mono fun z w' ⟨hz, ho⟩ => ?_
  exact ⟨hz, LogAt.rout h1 h2 h3 ho⟩
end
end Go.Proofs.YtakilnpfhljgfaaGreat.WL

/- rec: Sectors, Most, PutHead, label. No condition. -/
namespace Go.Proofs.YtakilnpfhljgfaaGreat.RC
set_option maxRecDepth 100000
open Go.RowKit Go.Proofs.YtakilnpfhljgfaaGreat.WI Go.Proofs.YtakilnpfhljgfaaGreat.SM
set_option linter.unusedVariables false
set_option linter.unusedSimpArgs false

def secsI (n : Int) : Int := if n < 1 ∨ 60 < n then 0 else (108 * n + 41) / 42
theorem sectors_any (n : Int) (w : World) : Calls Tryz.prog 42 #[.int .i64 n] w fun e w' => e = .returned (.int .i64 (secsI n)) ∧ w' = w := by
  unfold secsI
  by_cases h1 : n < 1
  · rw [if_pos (.inl h1)]
    go_enter Tryz.func42, Tryz.ntmps42
    go_wp2
    go_ret
    exact ⟨rfl, rfl⟩
  · by_cases h2 : 60 < n
    · rw [if_pos (.inr h2)]
      go_enter Tryz.func42, Tryz.ntmps42
      go_wp2
      go_ret
      exact ⟨rfl, rfl⟩
    · rw [if_neg (by omega)]
      have e1 : IntKind.i64.wrap (108 * n) = 108 * n := IntWalk.i64_in _ (by omega)
      have e2 : IntKind.i64.wrap (108 * n + 42) = 108 * n + 42 := IntWalk.i64_in _ (by omega)
      have e3 : IntKind.i64.wrap (108 * n + 42 - 1) = 108 * n + 41 := by rw [IntWalk.i64_in _ (by omega)]; omega
      have e4 : (108 * n + 41).tdiv 42 = (108 * n + 41) / 42 := Int.tdiv_eq_ediv_of_nonneg (by omega)
      obtain ⟨q, hq⟩ : ∃ q, (108 * n + 41) / 42 = q := ⟨_, rfl⟩
      have e5 : 0 ≤ q ∧ q ≤ 200 := by omega
      have e6 : IntKind.i64.wrap q = q := IntWalk.i64_in _ (by omega)
      rw [hq] at e4 ⊢
      have HQ := Lib.hid hq
      clear hq
      go_enter Tryz.func42, Tryz.ntmps42
      go_wp2
      go_ret
      exact ⟨rfl, rfl⟩
/-- The bytes of a head, ahead of its stamp. -/
def headB (e l a : Int) : ByteArray := ⟨#[72, 69, 65, 68]⟩ ++ strOfNums (([] ++ lowB e 8) ++ lowB l 8 ++ lowB a 4)
def headT (e l a : Int) : ByteArray := stampT (headB e l a) 64
theorem headB_size (e l a : Int) : (headB e l a).size = 24 := by
  unfold headB
  rw [ByteArray.size_append, strOf_size]
  simp [lowB_len]
  rfl
set_option maxHeartbeats 4000000 in
theorem put_head (e l a : Int) (he : 0 < e ∧ e ≤ 18446744073709551615) (hl : 0 < l ∧ l ≤ 18446744073709551615) (ha : 0 ≤ a ∧ a ≤ 256) (w : World) :
    Calls Tryz.prog 74 #[.agg #[.int .u64 e, .int .u64 l, .int .i64 a]] w fun x w' => x = .returned (.tuple #[.string (headT e l a), .int .i64 0]) ∧ Below w.heap.size w w' := by
  have n1 : (e == 0) = false := by simp; omega
  have n2 : (l == 0) = false := by simp; omega
  have n3 : decide (a < 0) = false := by simp; omega
  have n4 : decide (256 < a) = false := by simp; omega
  have wa : IntKind.u64.wrap a = a := IntWalk.u64_in _ (by omega)
  have ks := fun W => stamp_ok (headB e l a) 64 (by omega) (by omega) (by rw [headB_size]; omega) W
  have hx : headT e l a = stampT (headB e l a) 64 := rfl
  rw [hx]
  obtain ⟨T, hT⟩ : ∃ T, stampT (headB e l a) 64 = T := ⟨_, rfl⟩
  rw [hT] at ks ⊢
  have hsz := headB_size e l a
  obtain ⟨U, hU⟩ : ∃ U, strOfNums (([] ++ lowB e 8) ++ lowB l 8 ++ lowB a 4) = U := ⟨_, rfl⟩
  have hB : headB e l a = ⟨#[72, 69, 65, 68]⟩ ++ U := by rw [← hU]; rfl
  rw [hB] at ks hsz
  have HU := Lib.hid hU
  have hz1 : U.size = 20 := by rw [ByteArray.size_append] at hsz; have : (⟨#[72, 69, 65, 68]⟩ : ByteArray).size = 4 := rfl; omega
  have hz2 : ¬ 9223372036854775807 < (⟨#[72, 69, 65, 68]⟩ : ByteArray).size + U.size := by have : (⟨#[72, 69, 65, 68]⟩ : ByteArray).size = 4 := rfl; omega
  have hz3 : ¬ 9223372036854775807 < 4 + U.size := by omega
  have HE := Lib.hid he
  have HL := Lib.hid hl
  have HA := Lib.hid ha
  clear hT hU hx hB hsz he hl ha
  go_enter Tryz.func74, Tryz.ntmps74
  go_upto_region 4 with fail
  have hW := wr_new (w.alloc (.cells #[.int .u64 e, .int .u64 l, .int .i64 a] 113))
  have hb1 := Blk.new w 113 #[.int .u64 e, .int .u64 l, .int .i64 a]
  have hsz1 : (w.alloc (.cells #[.int .u64 e, .int .u64 l, .int .i64 a] 113)).heap.size = w.heap.size + 1 := by simp
  have hbl : Below w.heap.size w (w.alloc (.cells #[.int .u64 e, .int .u64 l, .int .i64 a] 113)) := (Below.refl _ w).alloc (Nat.le_refl _) _
  rw [hsz1] at hW
  obtain ⟨W1, hW1⟩ : ∃ W1, w.alloc (.cells #[.int .u64 e, .int .u64 l, .int .i64 a] 113) = W1 := ⟨_, rfl⟩
  rw [hW1] at hW hb1 hbl ⊢
  obtain ⟨W2, hW2⟩ : ∃ W2, W1.alloc (.cells #[.slice none 0 0, .int .i64 0] 141) = W2 := ⟨_, rfl⟩
  rw [hW2] at hW ⊢
  obtain ⟨g, hg⟩ : ∃ g, w.heap.size + 1 = g := ⟨_, rfl⟩
  rw [hg] at hW ⊢
  obtain ⟨x0, hx0⟩ : ∃ x, w.heap.size = x := ⟨_, rfl⟩
  rw [hx0] at hb1 hg ⊢
  have hxg : x0 < g := by omega
  have C0 : Hid (W1.cell? ⟨x0, 0, none⟩ = some (.int .u64 e)) := Lib.hid (hb1.cell 0)
  have C1 : Hid (W1.cell? ⟨x0, 1, none⟩ = some (.int .u64 l)) := Lib.hid (hb1.cell 1)
  have C2 : Hid (W1.cell? ⟨x0, 2, none⟩ = some (.int .i64 a)) := Lib.hid (hb1.cell 2)
  have t0 := hW.cell hxg C0.out
  have t1 := hW.cell hxg C1.out
  have t2 := hW.cell hxg C2.out
  have k1 := num_8 hW.drew (by simp) e (by have := HE.out; omega) HE.out.2
  have HBL := Lib.hid hbl
  have HG : Hid (w.heap.size ≤ g) := Lib.hid (by omega)
  clear hW hb1 hsz1 hbl hW1 hW2 hg hx0
  go_region_held3 (fun W => W.cell? ⟨x0, 0, none⟩ = some (.int .u64 e) ∧ W.cell? ⟨x0, 1, none⟩ = some (.int .u64 l) ∧ W.cell? ⟨x0, 2, none⟩ = some (.int .i64 a)) (go_keep) (first
    | (go_at_call 98; (with_reducible refine k1.mono ?_); rintro x w3 ⟨rfl, h3⟩; have s0 := h3.cell hxg C0.out; have s1 := h3.cell hxg C1.out; have s2 := h3.cell hxg C2.out; have k2 := num_8 h3 (by simp [lowB_len]) l (by have := HL.out; omega) HL.out.2; clear k1 h3)
    | (go_at_call 98; (with_reducible refine k2.mono ?_); rintro x w4 ⟨rfl, h4⟩; have s0 := h4.cell hxg C0.out; have s1 := h4.cell hxg C1.out; have s2 := h4.cell hxg C2.out; have k3 := num_4 h4 (by simp [lowB_len]) a HA.out.1 (by have := HA.out; omega); clear k2 h4)
    | (go_at_call 98; (with_reducible refine k3.mono ?_); rintro x w5 ⟨rfl, h5⟩; have s0 := h5.cell hxg C0.out; have s1 := h5.cell hxg C1.out; have s2 := h5.cell hxg C2.out; have k4 := bytes_any h5 (by simp [lowB_len]); rw [HU.out] at k4; have H5 := Lib.hid h5.bel; clear k3 h5)
    | (go_at_call 99; (with_reducible refine k4.mono ?_); rintro x w6 ⟨rfl, rfl⟩; clear k4))
  go_wp2_with (go_at_call 78; refine (ks _).mono ?_; rintro x w7 ⟨rfl, h7⟩; have H7 := Lib.hid h7; clear h7)
  go_ret2
  have hA := HBL.out.trans (H5.out.mono HG.out)
  exact ⟨rfl, hA.trans (H7.out.mono hA.size)⟩
/-- What a sector says of itself. -/
def labelT (e l p n : Int) : ByteArray := strOfNums ((([] ++ lowB e 8) ++ lowB l 8 ++ lowB p 1) ++ lowB n 1)
theorem labelT_size (e l p n : Int) : (labelT e l p n).size = 18 := by
  unfold labelT
  rw [strOf_size]
  simp [lowB_len]
set_option maxHeartbeats 4000000 in
theorem label_any (e l p n : Int) (A : Option Addr) (m c : Nat) (he : 0 ≤ e ∧ e ≤ 18446744073709551615) (hl : 0 ≤ l ∧ l ≤ 18446744073709551615) (hp : 0 ≤ p ∧ p ≤ 255) (hn : 0 ≤ n ∧ n ≤ 255) (w : World) :
    Calls Tryz.prog 79 #[.agg #[.int .u64 e, .int .u64 l, .slice A m c], .int .i64 p, .int .i64 n] w fun x w' => x = .returned (.string (labelT e l p n)) ∧ Below w.heap.size w w' := by
  have wp : IntKind.u64.wrap p = p := IntWalk.u64_in _ (by omega)
  have wn : IntKind.u64.wrap n = n := IntWalk.u64_in _ (by omega)
  obtain ⟨U, hU⟩ : ∃ U, labelT e l p n = U := ⟨_, rfl⟩
  have HU := Lib.hid hU
  rw [hU]
  have HE := Lib.hid he
  have HL := Lib.hid hl
  have HP := Lib.hid hp
  have HN := Lib.hid hn
  clear hU he hl hp hn
  go_enter Tryz.func79, Tryz.ntmps79
  go_upto_region 2 with fail
  have hW := wr_new (w.alloc (.cells #[.int .u64 e, .int .u64 l, .slice A m c] 82))
  have hb1 := Blk.new w 82 #[.int .u64 e, .int .u64 l, .slice A m c]
  have hsz1 : (w.alloc (.cells #[.int .u64 e, .int .u64 l, .slice A m c] 82)).heap.size = w.heap.size + 1 := by simp
  have hbl : Below w.heap.size w (w.alloc (.cells #[.int .u64 e, .int .u64 l, .slice A m c] 82)) := (Below.refl _ w).alloc (Nat.le_refl _) _
  rw [hsz1] at hW
  obtain ⟨W1, hW1⟩ : ∃ W1, w.alloc (.cells #[.int .u64 e, .int .u64 l, .slice A m c] 82) = W1 := ⟨_, rfl⟩
  rw [hW1] at hW hb1 hbl ⊢
  obtain ⟨W2, hW2⟩ : ∃ W2, W1.alloc (.cells #[.slice none 0 0, .int .i64 0] 141) = W2 := ⟨_, rfl⟩
  rw [hW2] at hW ⊢
  obtain ⟨g, hg⟩ : ∃ g, w.heap.size + 1 = g := ⟨_, rfl⟩
  rw [hg] at hW ⊢
  obtain ⟨x0, hx0⟩ : ∃ x, w.heap.size = x := ⟨_, rfl⟩
  rw [hx0] at hb1 hg ⊢
  have hxg : x0 < g := by omega
  have C0 : Hid (W1.cell? ⟨x0, 0, none⟩ = some (.int .u64 e)) := Lib.hid (hb1.cell 0)
  have C1 : Hid (W1.cell? ⟨x0, 1, none⟩ = some (.int .u64 l)) := Lib.hid (hb1.cell 1)
  have t0 := hW.cell hxg C0.out
  have t1 := hW.cell hxg C1.out
  have k1 := num_8 hW.drew (by simp) e HE.out.1 HE.out.2
  have HBL := Lib.hid hbl
  have HG : Hid (w.heap.size ≤ g) := Lib.hid (by omega)
  clear hW hb1 hsz1 hbl hW1 hW2 hg hx0
  go_region_held3 (fun W => W.cell? ⟨x0, 0, none⟩ = some (.int .u64 e) ∧ W.cell? ⟨x0, 1, none⟩ = some (.int .u64 l)) (go_keep) (first
    | (go_at_call 98; (with_reducible refine k1.mono ?_); rintro x w3 ⟨rfl, h3⟩; have s0 := h3.cell hxg C0.out; have s1 := h3.cell hxg C1.out; have k2 := num_8 h3 (by simp [lowB_len]) l HL.out.1 HL.out.2; clear k1 h3)
    | (go_at_call 98; (with_reducible refine k2.mono ?_); rintro x w4 ⟨rfl, h4⟩; have s0 := h4.cell hxg C0.out; have s1 := h4.cell hxg C1.out; have k3 := num_1 h4 (by simp [lowB_len]) p HP.out.1 HP.out.2; clear k2 h4)
    | (go_at_call 98; (with_reducible refine k3.mono ?_); rintro x w5 ⟨rfl, h5⟩; have s0 := h5.cell hxg C0.out; have s1 := h5.cell hxg C1.out; have k4 := num_1 h5 (by simp [lowB_len]) n HN.out.1 HN.out.2; clear k3 h5)
    | (go_at_call 98; (with_reducible refine k4.mono ?_); rintro x w6 ⟨rfl, h6⟩; have s0 := h6.cell hxg C0.out; have s1 := h6.cell hxg C1.out; have k5 := bytes_any h6 (by simp [lowB_len]); rw [show strOfNums _ = U from HU.out] at k5; have H6 := Lib.hid h6.bel; clear k4 h6)
    | (go_at_call 99; (with_reducible refine k5.mono ?_); rintro x w7 ⟨rfl, rfl⟩; clear k5))
  go_wp2_with fail
  go_ret
  exact ⟨rfl, HBL.out.trans (H6.out.mono HG.out)⟩
theorem put_head_bad (e l a : Int) (h : ¬ (0 < e ∧ 0 < l ∧ 0 ≤ a ∧ a ≤ 256)) (he : 0 ≤ e) (hl : 0 ≤ l) (w : World) :
    Calls Tryz.prog 74 #[.agg #[.int .u64 e, .int .u64 l, .int .i64 a]] w fun x w' => x = .returned (.tuple #[.string ⟨#[]⟩, .int .i64 1]) ∧ Below w.heap.size w w' := by
  by_cases h1 : 0 < e
  · have n1 : (e == 0) = false := by simp; omega
    by_cases h2 : 0 < l
    · have n2 : (l == 0) = false := by simp; omega
      by_cases h3 : 0 ≤ a
      · have n3 : decide (a < 0) = false := by simp; omega
        have n4 : decide (256 < a) = true := by simp; omega
        clear h h1 h2 h3 he hl
        go_enter Tryz.func74, Tryz.ntmps74
        go_wp2_with fail
        go_ret2
        exact ⟨rfl, (Below.refl _ w).alloc (Nat.le_refl _) _⟩
      · have n3 : decide (a < 0) = true := by simp; omega
        clear h h1 h2 h3 he hl
        go_enter Tryz.func74, Tryz.ntmps74
        go_wp2_with fail
        go_ret2
        exact ⟨rfl, (Below.refl _ w).alloc (Nat.le_refl _) _⟩
    · obtain rfl : l = 0 := by omega
      clear h h1 h2 he hl
      go_enter Tryz.func74, Tryz.ntmps74
      go_wp2_with fail
      go_ret2
      exact ⟨rfl, (Below.refl _ w).alloc (Nat.le_refl _) _⟩
  · obtain rfl : e = 0 := by omega
    clear h h1 he hl
    go_enter Tryz.func74, Tryz.ntmps74
    go_wp2_with fail
    go_ret2
    exact ⟨rfl, (Below.refl _ w).alloc (Nat.le_refl _) _⟩
end Go.Proofs.YtakilnpfhljgfaaGreat.RC

/- rec: what a record's bytes are; block.Right, wrong, body. No condition. -/
namespace Go.Proofs.YtakilnpfhljgfaaGreat.RC
set_option maxRecDepth 100000
open Go.RowKit Go.Proofs.YtakilnpfhljgfaaGreat.WI Go.Proofs.YtakilnpfhljgfaaGreat.SM
set_option linter.unusedVariables false
set_option linter.unusedSimpArgs false

abbrev TIm : TypeId := 41
structure Im where
  b : Int
  v : Int
  d : ByteArray
abbrev im0 : Im := ⟨0, 0, ⟨#[]⟩⟩
def ival (x : Im) : List Value := [.int .i64 x.b, .int .u64 x.v, .string x.d]
def iagg (x : Im) : Value := .agg #[.int .i64 x.b, .int .u64 x.v, .string x.d]
def rightB (x : Im) : Bool := decide (0 ≤ x.b) && decide (x.b < 4096) && decide (x.d.size = 96)
/-- An image that came in. -/
structure ImOk (x : Im) : Prop where
  b : -9223372036854775808 ≤ x.b ∧ x.b ≤ 9223372036854775807
  v : 0 ≤ x.v ∧ x.v ≤ 18446744073709551615
  d : x.d.size ≤ 9223372036854775807
/-- A row of images in memory. -/
def Ims (w : World) (A : Option Addr) (n c : Nat) (xs : List Im) : Prop :=
  n ≤ c ∧ c ≤ maxLen ∧ xs.length = n ∧ (∀ x ∈ xs, ImOk x) ∧ (0 < n → ∃ b off, A = some ⟨b, off, none⟩ ∧ b < w.heap.size ∧ ∀ i x, xs[i]? = some x → ∀ j u, (ival x)[j]? = some u → w.cell? ⟨b, off + (i * 3 + j), none⟩ = some u)
section
variable {w W : World} {A : Option Addr} {n c : Nat} {xs : List Im}
theorem Ims.old (h : Ims w A n c xs) (hb : Below w.heap.size w W) : Ims W A n c xs := by
  obtain ⟨h1, h2, h3, h4, h5⟩ := h
  refine ⟨h1, h2, h3, h4, fun h0 => ?_⟩
  obtain ⟨b, off, e, hlt, hc⟩ := h5 h0
  refine ⟨b, off, e, Nat.lt_of_lt_of_le hlt hb.size, fun i o ho j u hu => ?_⟩
  rw [hb.cell hlt]
  exact hc i o ho j u hu
theorem Ims.at_ (h : Ims w A n c xs) {k : Nat} (hk : k < n) : ∃ b off x, A = some ⟨b, off, none⟩ ∧ xs[k]? = some x ∧ ImOk x ∧ b < w.heap.size ∧ (k : Int) < (c : Int) ∧
    w.cell? ⟨b, off + k * 3, none⟩ = some (.int .i64 x.b) ∧ w.cell? ⟨b, off + k * 3 + 1, none⟩ = some (.int .u64 x.v) ∧ w.cell? ⟨b, off + k * 3 + 2, none⟩ = some (.string x.d) := by
  obtain ⟨h1, h2, h3, h4, h5⟩ := h
  obtain ⟨b, off, e, hlt, hc⟩ := h5 (by omega)
  obtain ⟨o, ho⟩ : ∃ o, xs[k]? = some o := ⟨_, List.getElem?_eq_getElem (by omega)⟩
  have g := hc k o ho
  refine ⟨b, off, o, e, ho, h4 o (List.mem_of_getElem? ho), hlt, by omega, g 0 _ rfl, ?_, ?_⟩
  · have := g 1 _ rfl; rwa [← Nat.add_assoc] at this
  · have := g 2 _ rfl; rwa [← Nat.add_assoc] at this
end
theorem right_any (x : Im) (w : World) (hx : ImOk x) : Calls Tryz.prog 101 #[iagg x] w fun e w' => e = .returned (.bool (rightB x)) ∧ Below w.heap.size w w' := by
  obtain ⟨b, v, d⟩ := x
  have h1 := hx.b
  have h3 := hx.d
  dsimp only at h1 h3
  unfold rightB iagg
  dsimp only
  obtain ⟨s, hs⟩ : ∃ s, d.size = s := ⟨_, rfl⟩
  have hd := fun w => (Below.refl _ w).alloc (Nat.le_refl _) (.cells #[.int .i64 b, .int .u64 v, .string d] TIm)
  rw [hs] at h3 ⊢
  clear hx
  by_cases b1 : 0 ≤ b
  · by_cases b2 : b < 4096
    · have c1 : decide (0 ≤ b) = true := by simpa using b1
      have c2 : decide (b < 4096) = true := by simpa using b2
      by_cases b3 : s = 96
      · have c3 : ((s : Int) == 96) = true := by simp; omega
        have r : (decide (0 ≤ b) && decide (b < 4096) && decide (s = 96)) = true := by simp [b1, b2, b3]
        rw [r]
        clear r b3 b1 b2
        go_enter Tryz.func101, Tryz.ntmps101
        go_wp2
        go_ret
        exact ⟨ret_bool (by first | rfl | simp), hd w⟩
      · have c3 : ((s : Int) == 96) = false := by simp; omega
        have r : (decide (0 ≤ b) && decide (b < 4096) && decide (s = 96)) = false := by simp [b3]
        rw [r]
        clear r b3 b1 b2
        go_enter Tryz.func101, Tryz.ntmps101
        go_wp2
        go_ret
        exact ⟨ret_bool (by first | rfl | simp), hd w⟩
    · have c1 : decide (0 ≤ b) = true := by simpa using b1
      have c2 : decide (b < 4096) = false := by simpa using b2
      have r : (decide (0 ≤ b) && decide (b < 4096) && decide (s = 96)) = false := by simp [b2]
      rw [r]
      clear r b1 b2
      go_enter Tryz.func101, Tryz.ntmps101
      go_wp2
      go_ret
      exact ⟨ret_bool (by first | rfl | simp), hd w⟩
  · have c1 : decide (0 ≤ b) = false := by simpa using b1
    have r : (decide (0 ≤ b) && decide (b < 4096) && decide (s = 96)) = false := by simp [b1]
    rw [r]
    clear r b1
    go_enter Tryz.func101, Tryz.ntmps101
    go_wp2
    go_ret
    exact ⟨ret_bool (by first | rfl | simp), hd w⟩

/-- Of the first k: all may be, and their numbers rise. -/
def riseB (xs : List Im) : Nat → Bool
  | 0 => true
  | k + 1 => riseB xs k && rightB (xs.getD k im0) && (k == 0 || decide ((xs.getD (k - 1) im0).b < (xs.getD k im0).b))
def wrongE (e l : Int) (xs : List Im) : Int := if e = 0 ∨ l = 0 ∨ xs.length = 0 then 1 else if riseB xs xs.length then (if 60 < xs.length then 2 else 0) else 1
theorem rise_no {xs : List Im} {k n : Nat} (h : riseB xs k = false) (hk : k ≤ n) : riseB xs n = false := by
  induction n with
  | zero =>
    have : k = 0 := by omega
    rw [this] at h
    exact h
  | succ n ih =>
    by_cases e : k = n + 1
    · subst e; exact h
    · unfold riseB; rw [ih (by omega)]; rfl
set_option maxHeartbeats 4000000 in
theorem wrong_any (e l : Int) (A : Option Addr) (n c : Nat) (xs : List Im) (w : World) (h : Ims w A n c xs) :
    Calls Tryz.prog 76 #[.agg #[.int .u64 e, .int .u64 l, .slice A n c]] w fun x w' => x = .returned (.int .i64 (wrongE e l xs)) ∧ Below w.heap.size w w' := by
  have hln := h.2.2.1
  have hlc := h.1
  have hcm := h.2.1
  unfold maxLen at hcm
  unfold wrongE
  rw [hln]
  by_cases e0 : e = 0
  · subst e0
    rw [if_pos (.inl rfl)]
    clear h hln
    go_enter Tryz.func76, Tryz.ntmps76
    go_wp2
    go_ret
    exact ⟨rfl, (Below.refl _ w).alloc (Nat.le_refl _) _⟩
  have n1 : (e == 0) = false := by simpa using e0
  by_cases l0 : l = 0
  · subst l0
    rw [if_pos (.inr (.inl rfl))]
    clear h hln
    go_enter Tryz.func76, Tryz.ntmps76
    go_wp2
    go_ret
    exact ⟨rfl, (Below.refl _ w).alloc (Nat.le_refl _) _⟩
  have n2 : (l == 0) = false := by simpa using l0
  by_cases z0 : n = 0
  · subst z0
    rw [if_pos (.inr (.inr rfl))]
    clear h hln
    go_enter Tryz.func76, Tryz.ntmps76
    go_wp2
    go_ret
    exact ⟨rfl, (Below.refl _ w).alloc (Nat.le_refl _) _⟩
  have n3 : ((n : Int) == 0) = false := by simp; omega
  rw [if_neg (by rintro (e | e | e); exact e0 e; exact l0 e; exact z0 e)]
  have HX := Lib.hid h
  obtain ⟨R, hR⟩ : ∃ R : Int, (if riseB xs n = true then (if 60 < n then 2 else 0) else 1) = R := ⟨_, rfl⟩
  have HR := Lib.hid hR
  have HN := Lib.hid hln
  rw [hR]
  clear h hln hR e0 l0 z0
  go_enter Tryz.func76, Tryz.ntmps76
  go_upto_region 3 with fail
  have hb1 := Blk.new w 82 #[.int .u64 e, .int .u64 l, .slice A n c]
  have hbl : Below w.heap.size w (w.alloc (.cells #[.int .u64 e, .int .u64 l, .slice A n c] 82)) := (Below.refl _ w).alloc (Nat.le_refl _) _
  obtain ⟨W1, hW1⟩ : ∃ W1, w.alloc (.cells #[.int .u64 e, .int .u64 l, .slice A n c] 82) = W1 := ⟨_, rfl⟩
  rw [hW1] at hb1 hbl ⊢
  obtain ⟨x0, hx0⟩ : ∃ x, w.heap.size = x := ⟨_, rfl⟩
  have HXX := Lib.hid hx0
  rw [hx0] at hb1 ⊢
  have C2 : Hid (W1.cell? ⟨x0, 2, none⟩ = some (.slice A n c)) := Lib.hid (hb1.cell 2)
  have HLT : Hid (x0 < W1.heap.size) := Lib.hid hb1.lt
  have c2 := C2.out
  have HBL := Lib.hid hbl
  clear hb1 hbl hW1 hx0
  go_wp2_with fail
  clear c2
  go_loopw [3, 4, 22] (fun _ _ i wr => ∃ k : Nat, i = .int .i64 (k : Int) ∧ k ≤ n ∧ Hid (riseB xs k = true ∧ Below W1.heap.size W1 wr)) (fun _ _ i _ => n - (intOf i).toNat)
  case atStart => exact ⟨0, rfl, by omega, Lib.hid ⟨rfl, belowSame _⟩⟩
  case round =>
    obtain ⟨k, rfl, hk, HK⟩ := hrel
    by_cases hlt : k < n
    · obtain ⟨b, off, x, rfl, hx, hok, hbl, hkc, c0, c1, c2⟩ := ((HX.out.old HBL.out).old HK.out.2).at_ hlt
      have e1 : IntKind.i64.wrap ((k : Int) + 1) = (k : Int) + 1 := IntWalk.i64_in _ (by omega)
      have hgk : xs.getD k im0 = x := by rw [List.getD_eq_getElem?_getD, hx]; rfl
      go_upto_region 6 with fail
      have hbx := Blk.new wr TIm #[.int .i64 x.b, .int .u64 x.v, .string x.d]
      have hb2 : Below W1.heap.size W1 (wr.alloc (.cells #[.int .i64 x.b, .int .u64 x.v, .string x.d] TIm)) := HK.out.2.alloc HK.out.2.size _
      obtain ⟨W2, hW2⟩ : ∃ W2, wr.alloc (.cells #[.int .i64 x.b, .int .u64 x.v, .string x.d] TIm) = W2 := ⟨_, rfl⟩
      rw [hW2] at hbx hb2 ⊢
      have hp : ∀ j : Nat, k = j + 1 → ∃ y, xs.getD j im0 = y ∧ W2.cell? ⟨b, off + j * 3, none⟩ = some (.int .i64 y.b) := fun j hj => by
        obtain ⟨b', off', y, e, hy, _, _, _, y0, _, _⟩ := ((HX.out.old HBL.out).old hb2).at_ (show j < n by omega)
        injection e with e
        injection e with e1 e2
        subst e1 e2
        exact ⟨y, by rw [List.getD_eq_getElem?_getD, hy]; rfl, y0⟩
      obtain ⟨q, hq⟩ : ∃ q, wr.heap.size = q := ⟨_, rfl⟩
      rw [hq] at hbx ⊢
      have d0 : W2.cell? ⟨q, 0, none⟩ = some (.int .i64 x.b) := hbx.cell 0
      have d1 : W2.cell? ⟨q, 1, none⟩ = some (.int .u64 x.v) := hbx.cell 1
      have d2 : W2.cell? ⟨q, 2, none⟩ = some (.string x.d) := hbx.cell 2
      have s2 : W2.cell? ⟨x0, 2, none⟩ = some (.slice (some ⟨b, off, none⟩) n c) := (hb2.cell (p := ⟨x0, 2, none⟩) HLT.out).trans C2.out
      have kr := fun W => right_any x W hok
      have HB2 := Lib.hid hb2
      have HP := Lib.hid hp
      have HGK := Lib.hid hgk
      have HQ : Hid (q < W2.heap.size) := Lib.hid hbx.lt
      have HX0 : Hid (x0 < W2.heap.size) := Lib.hid (Nat.lt_of_lt_of_le HLT.out hb2.size)
      obtain ⟨rb, hrb⟩ : ∃ rb, rightB x = rb := ⟨_, rfl⟩
      have KRR := Lib.hid hrb
      rw [hrb] at kr
      have KRB := Lib.hid kr
      clear hbx hb2 hW2 hp hgk hrb kr c0 c1 c2 hq
      cases rb
      · have hR1 : riseB xs n = false := rise_no (k := k + 1) (by unfold riseB; rw [HGK.out, KRR.out]; simp) (by omega)
        have hRR := HR.out
        rw [hR1, if_neg (by decide)] at hRR
        subst hRR
        clear hR1
        refine wp_region_inv (fun i' v' w' => ([(fun v' _ => v' = (.agg #[.int .i64 x.b, .int .u64 x.v, .string x.d])), (fun v' _ => v' = (.bool false)), (fun v' _ => v' = (.bool true)), (fun v' _ => v' = (.bool true)), (fun v' _ => v' = undef), (fun v' _ => v' = undef), (fun v' _ => v' = undef), (fun v' _ => v' = undef), (fun v' _ => v' = undef), (fun v' _ => v' = undef), (fun v' _ => v' = undef), (fun v' _ => v' = undef), (fun v' _ => v' = undef), (fun v' _ => v' = undef), (fun v' _ => v' = undef), (fun v' _ => v' = undef), (fun v' _ => v' = undef), (fun v' _ => v' = undef), (fun v' _ => v' = (Value.bool true))] : List (Value → World → Prop)).getD i' (fun _ _ => True) v' w') (by kernel_rfl) (by kernel_rfl) (stab_list (by
            repeat (first | exact allStab_nil | refine allStab_cons (stab_eq _) ?_ | refine allStab_cons (stab_slice _ _) ?_))) ?_ ?_
        · refine steps_cons rfl ?_ ?_
          · intro a w hR K hK
            have e4 : a.tmps.getD 4 undef = (.pointer (some ⟨q, 0, none⟩)) := hR.old 4 (by kernel_rfl) rfl
            rw [if_pos (wanted_none rfl)]
            have hc0 := (hR.bel.cell (p := ⟨q, 0, none⟩) HQ.out).trans d0
            have hc1 := (hR.bel.cell (p := ⟨q, 1, none⟩) HQ.out).trans d1
            have hc2 := (hR.bel.cell (p := ⟨q, 2, none⟩) HQ.out).trans d2
            clear hR
            go_simp
            exact hK _ _ (belowSame _) rfl
          refine steps_cons rfl ?_ ?_
          · intro a w hR K hK
            obtain ⟨v27, e27, _, q27⟩ := hR.val 0 27 (by kernel_rfl) (by kernel_rfl)
            obtain rfl : v27 = (.agg #[.int .i64 x.b, .int .u64 x.v, .string x.d]) := q27
            rw [if_pos (wanted_none rfl)]
            have hB := hR.bel
            clear hR
            go_simp
            refine (KRB.out _).mono ?_
            rintro e w' ⟨rfl, hw⟩
            exact hK _ _ (by first | exact belowOfEq hw | exact hw) rfl
          refine steps_cons rfl ?_ ?_
          · intro a w hR K hK
            obtain ⟨v28, e28, _, q28⟩ := hR.val 1 28 (by kernel_rfl) (by kernel_rfl)
            obtain rfl : v28 = (.bool false) := q28
            rw [if_pos (wanted_none rfl)]
            have hB := hR.bel
            clear hR
            go_simp
            exact hK _ _ (belowSame _) rfl
          refine steps_cons rfl ?_ ?_
          · intro a w hR K hK
            obtain ⟨v29, e29, _, q29⟩ := hR.val 2 29 (by kernel_rfl) (by kernel_rfl)
            obtain rfl : v29 = (.bool true) := q29
            rw [if_pos (wanted_none rfl)]
            have hB := hR.bel
            clear hR
            go_simp
            exact hK _ _ (belowSame _) rfl
          refine steps_cons rfl ?_ ?_
          · intro a w hR K hK
            rw [if_neg (hR.unwants (o := _) (g := 3) (b := false) rfl (by kernel_rfl : depB _ 3 = true) (by kernel_rfl : dstAt _ 3 = some 30) (fun _ h => .inl h))]
            exact hK _ _ (belowSame _) rfl
          refine steps_cons rfl ?_ ?_
          · intro a w hR K hK
            rw [if_neg (hR.unwants (o := _) (g := 3) (b := false) rfl (by kernel_rfl : depB _ 3 = true) (by kernel_rfl : dstAt _ 3 = some 30) (fun _ h => .inl h))]
            exact hK _ _ (belowSame _) rfl
          refine steps_cons rfl ?_ ?_
          · intro a w hR K hK
            rw [if_neg (hR.unwants (o := _) (g := 3) (b := false) rfl (by kernel_rfl : depB _ 3 = true) (by kernel_rfl : dstAt _ 3 = some 30) (fun _ h => .inl h))]
            exact hK _ _ (belowSame _) rfl
          refine steps_cons rfl ?_ ?_
          · intro a w hR K hK
            rw [if_neg (hR.unwants (o := _) (g := 6) (b := true) rfl (by kernel_rfl : depB _ 6 = true) (by kernel_rfl : dstAt _ 6 = some 33) (fun _ h => .inr h))]
            exact hK _ _ (belowSame _) rfl
          refine steps_cons rfl ?_ ?_
          · intro a w hR K hK
            rw [if_neg (hR.unwants (o := _) (g := 6) (b := true) rfl (by kernel_rfl : depB _ 6 = true) (by kernel_rfl : dstAt _ 6 = some 33) (fun _ h => .inr h))]
            exact hK _ _ (belowSame _) rfl
          refine steps_cons rfl ?_ ?_
          · intro a w hR K hK
            rw [if_neg (hR.unwants (o := _) (g := 6) (b := true) rfl (by kernel_rfl : depB _ 6 = true) (by kernel_rfl : dstAt _ 6 = some 33) (fun _ h => .inr h))]
            exact hK _ _ (belowSame _) rfl
          refine steps_cons rfl ?_ ?_
          · intro a w hR K hK
            rw [if_neg (hR.unwants (o := _) (g := 6) (b := true) rfl (by kernel_rfl : depB _ 6 = true) (by kernel_rfl : dstAt _ 6 = some 33) (fun _ h => .inr h))]
            exact hK _ _ (belowSame _) rfl
          refine steps_cons rfl ?_ ?_
          · intro a w hR K hK
            rw [if_neg (hR.unwants (o := _) (g := 6) (b := true) rfl (by kernel_rfl : depB _ 6 = true) (by kernel_rfl : dstAt _ 6 = some 33) (fun _ h => .inr h))]
            exact hK _ _ (belowSame _) rfl
          refine steps_cons rfl ?_ ?_
          · intro a w hR K hK
            rw [if_neg (hR.unwants (o := _) (g := 6) (b := true) rfl (by kernel_rfl : depB _ 6 = true) (by kernel_rfl : dstAt _ 6 = some 33) (fun _ h => .inr h))]
            exact hK _ _ (belowSame _) rfl
          refine steps_cons rfl ?_ ?_
          · intro a w hR K hK
            rw [if_neg (hR.unwants (o := _) (g := 6) (b := true) rfl (by kernel_rfl : depB _ 6 = true) (by kernel_rfl : dstAt _ 6 = some 33) (fun _ h => .inr h))]
            exact hK _ _ (belowSame _) rfl
          refine steps_cons rfl ?_ ?_
          · intro a w hR K hK
            rw [if_neg (hR.unwants (o := _) (g := 6) (b := true) rfl (by kernel_rfl : depB _ 6 = true) (by kernel_rfl : dstAt _ 6 = some 33) (fun _ h => .inr h))]
            exact hK _ _ (belowSame _) rfl
          refine steps_cons rfl ?_ ?_
          · intro a w hR K hK
            rw [if_neg (hR.unwants (o := _) (g := 6) (b := true) rfl (by kernel_rfl : depB _ 6 = true) (by kernel_rfl : dstAt _ 6 = some 33) (fun _ h => .inr h))]
            exact hK _ _ (belowSame _) rfl
          refine steps_cons rfl ?_ ?_
          · intro a w hR K hK
            rw [if_neg (hR.unwants (o := _) (g := 6) (b := true) rfl (by kernel_rfl : depB _ 6 = true) (by kernel_rfl : dstAt _ 6 = some 33) (fun _ h => .inr h))]
            exact hK _ _ (belowSame _) rfl
          refine steps_cons rfl ?_ ?_
          · intro a w hR K hK
            rw [if_neg (hR.unwants (o := _) (g := 3) (b := false) rfl (by kernel_rfl : depB _ 3 = true) (by kernel_rfl : dstAt _ 3 = some 30) (fun _ h => .inl h))]
            exact hK _ _ (belowSame _) rfl
          refine steps_cons rfl ?_ ?_
          · intro a w hR K hK
            obtain ⟨v30, e30, _, q30⟩ := hR.val 3 30 (by kernel_rfl) (by kernel_rfl)
            obtain rfl : v30 = (.bool true) := q30
            obtain ⟨v44, e44, _, q44⟩ := hR.val 17 44 (by kernel_rfl) (by kernel_rfl)
            obtain rfl : v44 = undef := q44
            rw [if_pos (wanted_none rfl)]
            have hB := hR.bel
            clear hR
            go_simp
            exact hK _ _ (belowSame _) rfl
          exact steps_nil
        · intro a' w' hF
          obtain ⟨v45, e45, _, q45⟩ := hF.val 18 45 (by decide) (by kernel_rfl)
          obtain rfl : v45 = (Value.bool true) := q45
          have hB := belowUndrew hF.bel
          have hf := hF.frame
          rw [show dsts _ = [27, 28, 29, 30, 31, 32, 33, 34, 35, 36, 37, 38, 39, 40, 41, 42, 43, 44, 45] from by kernel_rfl] at hf
          obtain ⟨z27, h27⟩ : ∃ z, a'.tmps.getD 27 undef = z := ⟨_, rfl⟩
          obtain ⟨z28, h28⟩ : ∃ z, a'.tmps.getD 28 undef = z := ⟨_, rfl⟩
          obtain ⟨z29, h29⟩ : ∃ z, a'.tmps.getD 29 undef = z := ⟨_, rfl⟩
          obtain ⟨z30, h30⟩ : ∃ z, a'.tmps.getD 30 undef = z := ⟨_, rfl⟩
          obtain ⟨z31, h31⟩ : ∃ z, a'.tmps.getD 31 undef = z := ⟨_, rfl⟩
          obtain ⟨z32, h32⟩ : ∃ z, a'.tmps.getD 32 undef = z := ⟨_, rfl⟩
          obtain ⟨z33, h33⟩ : ∃ z, a'.tmps.getD 33 undef = z := ⟨_, rfl⟩
          obtain ⟨z34, h34⟩ : ∃ z, a'.tmps.getD 34 undef = z := ⟨_, rfl⟩
          obtain ⟨z35, h35⟩ : ∃ z, a'.tmps.getD 35 undef = z := ⟨_, rfl⟩
          obtain ⟨z36, h36⟩ : ∃ z, a'.tmps.getD 36 undef = z := ⟨_, rfl⟩
          obtain ⟨z37, h37⟩ : ∃ z, a'.tmps.getD 37 undef = z := ⟨_, rfl⟩
          obtain ⟨z38, h38⟩ : ∃ z, a'.tmps.getD 38 undef = z := ⟨_, rfl⟩
          obtain ⟨z39, h39⟩ : ∃ z, a'.tmps.getD 39 undef = z := ⟨_, rfl⟩
          obtain ⟨z40, h40⟩ : ∃ z, a'.tmps.getD 40 undef = z := ⟨_, rfl⟩
          obtain ⟨z41, h41⟩ : ∃ z, a'.tmps.getD 41 undef = z := ⟨_, rfl⟩
          obtain ⟨z42, h42⟩ : ∃ z, a'.tmps.getD 42 undef = z := ⟨_, rfl⟩
          obtain ⟨z43, h43⟩ : ∃ z, a'.tmps.getD 43 undef = z := ⟨_, rfl⟩
          obtain ⟨z44, h44⟩ : ∃ z, a'.tmps.getD 44 undef = z := ⟨_, rfl⟩
          simp only [List.foldl_cons, List.foldl_nil, h27, h28, h29, h30, h31, h32, h33, h34, h35, h36, h37, h38, h39, h40, h41, h42, h43, h44, e45] at hf
          simp only [List.setIfInBounds_toArray, List.set_cons_zero, List.set_cons_succ] at hf
          clear hF e45 h27 h28 h29 h30 h31 h32 h33 h34 h35 h36 h37 h38 h39 h40 h41 h42 h43 h44
          subst hf
          have HB3 := Lib.hid (HB2.out.trans (hB.mono HB2.out.size))
          clear hB
          go_wp2_with fail
          go_ret
          exact ⟨rfl, HBL.out.trans (HB3.out.mono HBL.out.size)⟩
      · rcases Nat.eq_zero_or_pos k with hk0 | hk0
        · subst hk0
          have hri : riseB xs 1 = true := by unfold riseB riseB; rw [HGK.out, KRR.out]; rfl
          have HRI := Lib.hid hri
          clear hri
          refine wp_region_inv (fun i' v' w' => ([(fun v' _ => v' = (.agg #[.int .i64 x.b, .int .u64 x.v, .string x.d])), (fun v' _ => v' = (.bool true)), (fun v' _ => v' = (.bool false)), (fun v' _ => v' = (.bool false)), (fun v' _ => v' = (.int .i64 ((0 : Nat) : Int))), (fun v' _ => v' = (.bool false)), (fun v' _ => v' = (.bool false)), (fun v' _ => v' = undef), (fun v' _ => v' = undef), (fun v' _ => v' = undef), (fun v' _ => v' = undef), (fun v' _ => v' = undef), (fun v' _ => v' = undef), (fun v' _ => v' = undef), (fun v' _ => v' = undef), (fun v' _ => v' = undef), (fun v' _ => v' = undef), (fun v' _ => v' = (Value.bool false)), (fun v' _ => v' = (Value.bool false))] : List (Value → World → Prop)).getD i' (fun _ _ => True) v' w') (by kernel_rfl) (by kernel_rfl) (stab_list (by
              repeat (first | exact allStab_nil | refine allStab_cons (stab_eq _) ?_ | refine allStab_cons (stab_slice _ _) ?_))) ?_ ?_
          · refine steps_cons rfl ?_ ?_
            · intro a w hR K hK
              have e4 : a.tmps.getD 4 undef = (.pointer (some ⟨q, 0, none⟩)) := hR.old 4 (by kernel_rfl) rfl
              rw [if_pos (wanted_none rfl)]
              have hc0 := (hR.bel.cell (p := ⟨q, 0, none⟩) HQ.out).trans d0
              have hc1 := (hR.bel.cell (p := ⟨q, 1, none⟩) HQ.out).trans d1
              have hc2 := (hR.bel.cell (p := ⟨q, 2, none⟩) HQ.out).trans d2
              clear hR
              go_simp
              exact hK _ _ (belowSame _) rfl
            refine steps_cons rfl ?_ ?_
            · intro a w hR K hK
              obtain ⟨v27, e27, _, q27⟩ := hR.val 0 27 (by kernel_rfl) (by kernel_rfl)
              obtain rfl : v27 = (.agg #[.int .i64 x.b, .int .u64 x.v, .string x.d]) := q27
              rw [if_pos (wanted_none rfl)]
              have hB := hR.bel
              clear hR
              go_simp
              refine (KRB.out _).mono ?_
              rintro e w' ⟨rfl, hw⟩
              exact hK _ _ (by first | exact belowOfEq hw | exact hw) rfl
            refine steps_cons rfl ?_ ?_
            · intro a w hR K hK
              obtain ⟨v28, e28, _, q28⟩ := hR.val 1 28 (by kernel_rfl) (by kernel_rfl)
              obtain rfl : v28 = (.bool true) := q28
              rw [if_pos (wanted_none rfl)]
              have hB := hR.bel
              clear hR
              go_simp
              exact hK _ _ (belowSame _) rfl
            refine steps_cons rfl ?_ ?_
            · intro a w hR K hK
              obtain ⟨v29, e29, _, q29⟩ := hR.val 2 29 (by kernel_rfl) (by kernel_rfl)
              obtain rfl : v29 = (.bool false) := q29
              rw [if_pos (wanted_none rfl)]
              have hB := hR.bel
              clear hR
              go_simp
              exact hK _ _ (belowSame _) rfl
            refine steps_cons rfl ?_ ?_
            · intro a w hR K hK
              have e3 : a.tmps.getD 3 undef = (.int .i64 ((0 : Nat) : Int)) := hR.old 3 (by kernel_rfl) rfl
              rw [if_pos (hR.wants (o := _) rfl (by kernel_rfl : depB _ 3 = true) (by kernel_rfl : dstAt _ 3 = some 30) (fun _ h => h))]
              have hB := hR.bel
              clear hR
              go_simp
              exact hK _ _ (belowSame _) rfl
            refine steps_cons rfl ?_ ?_
            · intro a w hR K hK
              obtain ⟨v31, e31, _, q31⟩ := hR.val 4 31 (by kernel_rfl) (by kernel_rfl)
              obtain rfl : v31 = (.int .i64 ((0 : Nat) : Int)) := q31
              rw [if_pos (hR.wants (o := _) rfl (by kernel_rfl : depB _ 3 = true) (by kernel_rfl : dstAt _ 3 = some 30) (fun _ h => h))]
              have hB := hR.bel
              clear hR
              go_simp
              exact hK _ _ (belowSame _) rfl
            refine steps_cons rfl ?_ ?_
            · intro a w hR K hK
              obtain ⟨v32, e32, _, q32⟩ := hR.val 5 32 (by kernel_rfl) (by kernel_rfl)
              obtain rfl : v32 = (.bool false) := q32
              rw [if_pos (hR.wants (o := _) rfl (by kernel_rfl : depB _ 3 = true) (by kernel_rfl : dstAt _ 3 = some 30) (fun _ h => h))]
              have hB := hR.bel
              clear hR
              go_simp
              exact hK _ _ (belowSame _) rfl
            refine steps_cons rfl ?_ ?_
            · intro a w hR K hK
              rw [if_neg (hR.unwants (o := _) (g := 6) (b := true) rfl (by kernel_rfl : depB _ 6 = true) (by kernel_rfl : dstAt _ 6 = some 33) (fun _ h => .inl h))]
              exact hK _ _ (belowSame _) rfl
            refine steps_cons rfl ?_ ?_
            · intro a w hR K hK
              rw [if_neg (hR.unwants (o := _) (g := 6) (b := true) rfl (by kernel_rfl : depB _ 6 = true) (by kernel_rfl : dstAt _ 6 = some 33) (fun _ h => .inl h))]
              exact hK _ _ (belowSame _) rfl
            refine steps_cons rfl ?_ ?_
            · intro a w hR K hK
              rw [if_neg (hR.unwants (o := _) (g := 6) (b := true) rfl (by kernel_rfl : depB _ 6 = true) (by kernel_rfl : dstAt _ 6 = some 33) (fun _ h => .inl h))]
              exact hK _ _ (belowSame _) rfl
            refine steps_cons rfl ?_ ?_
            · intro a w hR K hK
              rw [if_neg (hR.unwants (o := _) (g := 6) (b := true) rfl (by kernel_rfl : depB _ 6 = true) (by kernel_rfl : dstAt _ 6 = some 33) (fun _ h => .inl h))]
              exact hK _ _ (belowSame _) rfl
            refine steps_cons rfl ?_ ?_
            · intro a w hR K hK
              rw [if_neg (hR.unwants (o := _) (g := 6) (b := true) rfl (by kernel_rfl : depB _ 6 = true) (by kernel_rfl : dstAt _ 6 = some 33) (fun _ h => .inl h))]
              exact hK _ _ (belowSame _) rfl
            refine steps_cons rfl ?_ ?_
            · intro a w hR K hK
              rw [if_neg (hR.unwants (o := _) (g := 6) (b := true) rfl (by kernel_rfl : depB _ 6 = true) (by kernel_rfl : dstAt _ 6 = some 33) (fun _ h => .inl h))]
              exact hK _ _ (belowSame _) rfl
            refine steps_cons rfl ?_ ?_
            · intro a w hR K hK
              rw [if_neg (hR.unwants (o := _) (g := 6) (b := true) rfl (by kernel_rfl : depB _ 6 = true) (by kernel_rfl : dstAt _ 6 = some 33) (fun _ h => .inl h))]
              exact hK _ _ (belowSame _) rfl
            refine steps_cons rfl ?_ ?_
            · intro a w hR K hK
              rw [if_neg (hR.unwants (o := _) (g := 6) (b := true) rfl (by kernel_rfl : depB _ 6 = true) (by kernel_rfl : dstAt _ 6 = some 33) (fun _ h => .inl h))]
              exact hK _ _ (belowSame _) rfl
            refine steps_cons rfl ?_ ?_
            · intro a w hR K hK
              rw [if_neg (hR.unwants (o := _) (g := 6) (b := true) rfl (by kernel_rfl : depB _ 6 = true) (by kernel_rfl : dstAt _ 6 = some 33) (fun _ h => .inl h))]
              exact hK _ _ (belowSame _) rfl
            refine steps_cons rfl ?_ ?_
            · intro a w hR K hK
              rw [if_neg (hR.unwants (o := _) (g := 6) (b := true) rfl (by kernel_rfl : depB _ 6 = true) (by kernel_rfl : dstAt _ 6 = some 33) (fun _ h => .inl h))]
              exact hK _ _ (belowSame _) rfl
            refine steps_cons rfl ?_ ?_
            · intro a w hR K hK
              obtain ⟨v33, e33, _, q33⟩ := hR.val 6 33 (by kernel_rfl) (by kernel_rfl)
              obtain rfl : v33 = (.bool false) := q33
              obtain ⟨v43, e43, _, q43⟩ := hR.val 16 43 (by kernel_rfl) (by kernel_rfl)
              obtain rfl : v43 = undef := q43
              rw [if_pos (hR.wants (o := _) rfl (by kernel_rfl : depB _ 3 = true) (by kernel_rfl : dstAt _ 3 = some 30) (fun _ h => h))]
              have hB := hR.bel
              clear hR
              go_simp
              exact hK _ _ (belowSame _) rfl
            refine steps_cons rfl ?_ ?_
            · intro a w hR K hK
              obtain ⟨v30, e30, _, q30⟩ := hR.val 3 30 (by kernel_rfl) (by kernel_rfl)
              obtain rfl : v30 = (.bool false) := q30
              obtain ⟨v44, e44, _, q44⟩ := hR.val 17 44 (by kernel_rfl) (by kernel_rfl)
              obtain rfl : v44 = (Value.bool false) := q44
              rw [if_pos (wanted_none rfl)]
              have hB := hR.bel
              clear hR
              go_simp
              exact hK _ _ (belowSame _) rfl
            exact steps_nil
          · intro a' w' hF
            obtain ⟨v45, e45, _, q45⟩ := hF.val 18 45 (by decide) (by kernel_rfl)
            obtain rfl : v45 = (Value.bool false) := q45
            have hB := belowUndrew hF.bel
            have hf := hF.frame
            rw [show dsts _ = [27, 28, 29, 30, 31, 32, 33, 34, 35, 36, 37, 38, 39, 40, 41, 42, 43, 44, 45] from by kernel_rfl] at hf
            obtain ⟨z27, h27⟩ : ∃ z, a'.tmps.getD 27 undef = z := ⟨_, rfl⟩
            obtain ⟨z28, h28⟩ : ∃ z, a'.tmps.getD 28 undef = z := ⟨_, rfl⟩
            obtain ⟨z29, h29⟩ : ∃ z, a'.tmps.getD 29 undef = z := ⟨_, rfl⟩
            obtain ⟨z30, h30⟩ : ∃ z, a'.tmps.getD 30 undef = z := ⟨_, rfl⟩
            obtain ⟨z31, h31⟩ : ∃ z, a'.tmps.getD 31 undef = z := ⟨_, rfl⟩
            obtain ⟨z32, h32⟩ : ∃ z, a'.tmps.getD 32 undef = z := ⟨_, rfl⟩
            obtain ⟨z33, h33⟩ : ∃ z, a'.tmps.getD 33 undef = z := ⟨_, rfl⟩
            obtain ⟨z34, h34⟩ : ∃ z, a'.tmps.getD 34 undef = z := ⟨_, rfl⟩
            obtain ⟨z35, h35⟩ : ∃ z, a'.tmps.getD 35 undef = z := ⟨_, rfl⟩
            obtain ⟨z36, h36⟩ : ∃ z, a'.tmps.getD 36 undef = z := ⟨_, rfl⟩
            obtain ⟨z37, h37⟩ : ∃ z, a'.tmps.getD 37 undef = z := ⟨_, rfl⟩
            obtain ⟨z38, h38⟩ : ∃ z, a'.tmps.getD 38 undef = z := ⟨_, rfl⟩
            obtain ⟨z39, h39⟩ : ∃ z, a'.tmps.getD 39 undef = z := ⟨_, rfl⟩
            obtain ⟨z40, h40⟩ : ∃ z, a'.tmps.getD 40 undef = z := ⟨_, rfl⟩
            obtain ⟨z41, h41⟩ : ∃ z, a'.tmps.getD 41 undef = z := ⟨_, rfl⟩
            obtain ⟨z42, h42⟩ : ∃ z, a'.tmps.getD 42 undef = z := ⟨_, rfl⟩
            obtain ⟨z43, h43⟩ : ∃ z, a'.tmps.getD 43 undef = z := ⟨_, rfl⟩
            obtain ⟨z44, h44⟩ : ∃ z, a'.tmps.getD 44 undef = z := ⟨_, rfl⟩
            simp only [List.foldl_cons, List.foldl_nil, h27, h28, h29, h30, h31, h32, h33, h34, h35, h36, h37, h38, h39, h40, h41, h42, h43, h44, e45] at hf
            simp only [List.setIfInBounds_toArray, List.set_cons_zero, List.set_cons_succ] at hf
            clear hF e45 h27 h28 h29 h30 h31 h32 h33 h34 h35 h36 h37 h38 h39 h40 h41 h42 h43 h44
            subst hf
            have HB3 := Lib.hid (HB2.out.trans (hB.mono HB2.out.size))
            clear hB
            go_wp2_with fail
            go_roundw
            case rel => exact ⟨1, by go_num, by omega, Lib.hid ⟨HRI.out, HB3.out⟩⟩
            case measure => simp [intOf]; omega
        · obtain ⟨j, rfl⟩ : ∃ j, k = j + 1 := ⟨k - 1, by omega⟩
          obtain ⟨y, hy, y0⟩ := HP.out j rfl
          have e2 : IntKind.i64.wrap (((j + 1 : Nat) : Int) - 1) = (j : Int) := by rw [IntWalk.i64_in _ (by omega)]; omega
          have e3 : decide ((0 : Int) < ((j + 1 : Nat) : Int)) = true := decide_eq_true (by omega)
          have e2b : IntKind.i64.wrap (j : Int) = (j : Int) := IntWalk.i64_in _ (by omega)
          have HBB : Hid (b < W2.heap.size) := Lib.hid (World.block_lt_of_cell? W2 _ y0)
          have hjc : (j : Int) < (n : Int) := by omega
          have hjc0 : (0 : Int) ≤ (j : Int) := by omega
          have hj2 : (j : Int).toNat = j := by omega
          by_cases hle : x.b ≤ y.b
          · have hR1 : riseB xs n = false := rise_no (k := j + 1 + 1) (by unfold riseB; rw [HGK.out, KRR.out, show j + 1 - 1 = j by omega, hy]; simp; intros; omega) (by omega)
            have hRR := HR.out
            rw [hR1, if_neg (by decide)] at hRR
            subst hRR
            have e4 : decide (x.b ≤ y.b) = true := by simpa using hle
            clear hR1 hy
            refine wp_region_inv (fun i' v' w' => ([(fun v' _ => v' = (.agg #[.int .i64 x.b, .int .u64 x.v, .string x.d])), (fun v' _ => v' = (.bool true)), (fun v' _ => v' = (.bool false)), (fun v' _ => v' = (.bool false)), (fun v' _ => v' = (.int .i64 ((j + 1 : Nat) : Int))), (fun v' _ => v' = (.bool true)), (fun v' _ => v' = (.bool true)), (fun v' _ => v' = (.pointer (some ⟨q, 0, none⟩))), (fun v' _ => v' = (.int .i64 x.b)), (fun v' _ => v' = (.pointer (some ⟨x0, 2, none⟩))), (fun v' _ => v' = (.slice (some ⟨b, off, none⟩) n c)), (fun v' _ => v' = (.int .i64 ((j + 1 : Nat) : Int))), (fun v' _ => v' = (.int .i64 (j : Int))), (fun v' _ => v' = (.pointer (some ⟨b, off + j * 3, none⟩))), (fun v' _ => v' = (.pointer (some ⟨b, off + j * 3, none⟩))), (fun v' _ => v' = (.int .i64 y.b)), (fun v' _ => v' = (.bool true)), (fun v' _ => v' = (.bool true)), (fun v' _ => v' = (.bool true))] : List (Value → World → Prop)).getD i' (fun _ _ => True) v' w') (by kernel_rfl) (by kernel_rfl) (stab_list (by
                repeat (first | exact allStab_nil | refine allStab_cons (stab_eq _) ?_ | refine allStab_cons (stab_slice _ _) ?_))) ?_ ?_
            · refine steps_cons rfl ?_ ?_
              · intro a w hR K hK
                have e4 : a.tmps.getD 4 undef = (.pointer (some ⟨q, 0, none⟩)) := hR.old 4 (by kernel_rfl) rfl
                rw [if_pos (wanted_none rfl)]
                have hc0 := (hR.bel.cell (p := ⟨q, 0, none⟩) HQ.out).trans d0
                have hc1 := (hR.bel.cell (p := ⟨q, 1, none⟩) HQ.out).trans d1
                have hc2 := (hR.bel.cell (p := ⟨q, 2, none⟩) HQ.out).trans d2
                clear hR
                go_simp
                exact hK _ _ (belowSame _) rfl
              refine steps_cons rfl ?_ ?_
              · intro a w hR K hK
                obtain ⟨v27, e27, _, q27⟩ := hR.val 0 27 (by kernel_rfl) (by kernel_rfl)
                obtain rfl : v27 = (.agg #[.int .i64 x.b, .int .u64 x.v, .string x.d]) := q27
                rw [if_pos (wanted_none rfl)]
                have hB := hR.bel
                clear hR
                go_simp
                refine (KRB.out _).mono ?_
                rintro e w' ⟨rfl, hw⟩
                exact hK _ _ (by first | exact belowOfEq hw | exact hw) rfl
              refine steps_cons rfl ?_ ?_
              · intro a w hR K hK
                obtain ⟨v28, e28, _, q28⟩ := hR.val 1 28 (by kernel_rfl) (by kernel_rfl)
                obtain rfl : v28 = (.bool true) := q28
                rw [if_pos (wanted_none rfl)]
                have hB := hR.bel
                clear hR
                go_simp
                exact hK _ _ (belowSame _) rfl
              refine steps_cons rfl ?_ ?_
              · intro a w hR K hK
                obtain ⟨v29, e29, _, q29⟩ := hR.val 2 29 (by kernel_rfl) (by kernel_rfl)
                obtain rfl : v29 = (.bool false) := q29
                rw [if_pos (wanted_none rfl)]
                have hB := hR.bel
                clear hR
                go_simp
                exact hK _ _ (belowSame _) rfl
              refine steps_cons rfl ?_ ?_
              · intro a w hR K hK
                have e3 : a.tmps.getD 3 undef = (.int .i64 ((j + 1 : Nat) : Int)) := hR.old 3 (by kernel_rfl) rfl
                rw [if_pos (hR.wants (o := _) rfl (by kernel_rfl : depB _ 3 = true) (by kernel_rfl : dstAt _ 3 = some 30) (fun _ h => h))]
                have hB := hR.bel
                clear hR
                go_simp
                exact hK _ _ (belowSame _) rfl
              refine steps_cons rfl ?_ ?_
              · intro a w hR K hK
                obtain ⟨v31, e31, _, q31⟩ := hR.val 4 31 (by kernel_rfl) (by kernel_rfl)
                obtain rfl : v31 = (.int .i64 ((j + 1 : Nat) : Int)) := q31
                rw [if_pos (hR.wants (o := _) rfl (by kernel_rfl : depB _ 3 = true) (by kernel_rfl : dstAt _ 3 = some 30) (fun _ h => h))]
                have hB := hR.bel
                clear hR
                go_simp
                exact hK _ _ (belowSame _) rfl
              refine steps_cons rfl ?_ ?_
              · intro a w hR K hK
                obtain ⟨v32, e32, _, q32⟩ := hR.val 5 32 (by kernel_rfl) (by kernel_rfl)
                obtain rfl : v32 = (.bool true) := q32
                rw [if_pos (hR.wants (o := _) rfl (by kernel_rfl : depB _ 3 = true) (by kernel_rfl : dstAt _ 3 = some 30) (fun _ h => h))]
                have hB := hR.bel
                clear hR
                go_simp
                exact hK _ _ (belowSame _) rfl
              refine steps_cons rfl ?_ ?_
              · intro a w hR K hK
                have e4 : a.tmps.getD 4 undef = (.pointer (some ⟨q, 0, none⟩)) := hR.old 4 (by kernel_rfl) rfl
                rw [if_pos (hR.wants (o := _) rfl (by kernel_rfl : depB _ 6 = true) (by kernel_rfl : dstAt _ 6 = some 33) (fun _ h => h))]
                have hB := hR.bel
                clear hR
                go_simp
                exact hK _ _ (belowSame _) rfl
              refine steps_cons rfl ?_ ?_
              · intro a w hR K hK
                obtain ⟨v34, e34, _, q34⟩ := hR.val 7 34 (by kernel_rfl) (by kernel_rfl)
                obtain rfl : v34 = (.pointer (some ⟨q, 0, none⟩)) := q34
                rw [if_pos (hR.wants (o := _) rfl (by kernel_rfl : depB _ 6 = true) (by kernel_rfl : dstAt _ 6 = some 33) (fun _ h => h))]
                have hc := (hR.bel.cell (p := ⟨q, 0, none⟩) HQ.out).trans d0
                clear hR
                go_simp
                exact hK _ _ (belowSame _) rfl
              refine steps_cons rfl ?_ ?_
              · intro a w hR K hK
                have e1 : a.tmps.getD 1 undef = (.pointer (some ⟨x0, 0, none⟩)) := hR.old 1 (by kernel_rfl) rfl
                rw [if_pos (hR.wants (o := _) rfl (by kernel_rfl : depB _ 6 = true) (by kernel_rfl : dstAt _ 6 = some 33) (fun _ h => h))]
                have hB := hR.bel
                clear hR
                go_simp
                exact hK _ _ (belowSame _) rfl
              refine steps_cons rfl ?_ ?_
              · intro a w hR K hK
                obtain ⟨v36, e36, _, q36⟩ := hR.val 9 36 (by kernel_rfl) (by kernel_rfl)
                obtain rfl : v36 = (.pointer (some ⟨x0, 2, none⟩)) := q36
                rw [if_pos (hR.wants (o := _) rfl (by kernel_rfl : depB _ 6 = true) (by kernel_rfl : dstAt _ 6 = some 33) (fun _ h => h))]
                have hc := (hR.bel.cell (p := ⟨x0, 2, none⟩) HX0.out).trans s2
                clear hR
                go_simp
                exact hK _ _ (belowSame _) rfl
              refine steps_cons rfl ?_ ?_
              · intro a w hR K hK
                have e3 : a.tmps.getD 3 undef = (.int .i64 ((j + 1 : Nat) : Int)) := hR.old 3 (by kernel_rfl) rfl
                rw [if_pos (hR.wants (o := _) rfl (by kernel_rfl : depB _ 6 = true) (by kernel_rfl : dstAt _ 6 = some 33) (fun _ h => h))]
                have hB := hR.bel
                clear hR
                go_simp
                exact hK _ _ (belowSame _) rfl
              refine steps_cons rfl ?_ ?_
              · intro a w hR K hK
                obtain ⟨v38, e38, _, q38⟩ := hR.val 11 38 (by kernel_rfl) (by kernel_rfl)
                obtain rfl : v38 = (.int .i64 ((j + 1 : Nat) : Int)) := q38
                rw [if_pos (hR.wants (o := _) rfl (by kernel_rfl : depB _ 6 = true) (by kernel_rfl : dstAt _ 6 = some 33) (fun _ h => h))]
                have hB := hR.bel
                clear hR
                go_simp
                exact hK _ _ (belowSame _) rfl
              refine steps_cons rfl ?_ ?_
              · intro a w hR K hK
                obtain ⟨v37, e37, _, q37⟩ := hR.val 10 37 (by kernel_rfl) (by kernel_rfl)
                obtain rfl : v37 = (.slice (some ⟨b, off, none⟩) n c) := q37
                obtain ⟨v39, e39, _, q39⟩ := hR.val 12 39 (by kernel_rfl) (by kernel_rfl)
                obtain rfl : v39 = (.int .i64 (j : Int)) := q39
                rw [if_pos (hR.wants (o := _) rfl (by kernel_rfl : depB _ 6 = true) (by kernel_rfl : dstAt _ 6 = some 33) (fun _ h => h))]
                have hB := hR.bel
                clear hR
                go_simp
                exact hK _ _ (belowSame _) rfl
              refine steps_cons rfl ?_ ?_
              · intro a w hR K hK
                obtain ⟨v40, e40, _, q40⟩ := hR.val 13 40 (by kernel_rfl) (by kernel_rfl)
                obtain rfl : v40 = (.pointer (some ⟨b, off + j * 3, none⟩)) := q40
                rw [if_pos (hR.wants (o := _) rfl (by kernel_rfl : depB _ 6 = true) (by kernel_rfl : dstAt _ 6 = some 33) (fun _ h => h))]
                have hB := hR.bel
                clear hR
                go_simp
                exact hK _ _ (belowSame _) rfl
              refine steps_cons rfl ?_ ?_
              · intro a w hR K hK
                obtain ⟨v41, e41, _, q41⟩ := hR.val 14 41 (by kernel_rfl) (by kernel_rfl)
                obtain rfl : v41 = (.pointer (some ⟨b, off + j * 3, none⟩)) := q41
                rw [if_pos (hR.wants (o := _) rfl (by kernel_rfl : depB _ 6 = true) (by kernel_rfl : dstAt _ 6 = some 33) (fun _ h => h))]
                have hc := (hR.bel.cell (p := ⟨b, off + j * 3, none⟩) HBB.out).trans y0
                clear hR
                go_simp
                exact hK _ _ (belowSame _) rfl
              refine steps_cons rfl ?_ ?_
              · intro a w hR K hK
                obtain ⟨v35, e35, _, q35⟩ := hR.val 8 35 (by kernel_rfl) (by kernel_rfl)
                obtain rfl : v35 = (.int .i64 x.b) := q35
                obtain ⟨v42, e42, _, q42⟩ := hR.val 15 42 (by kernel_rfl) (by kernel_rfl)
                obtain rfl : v42 = (.int .i64 y.b) := q42
                rw [if_pos (hR.wants (o := _) rfl (by kernel_rfl : depB _ 6 = true) (by kernel_rfl : dstAt _ 6 = some 33) (fun _ h => h))]
                have hB := hR.bel
                clear hR
                go_simp
                exact hK _ _ (belowSame _) rfl
              refine steps_cons rfl ?_ ?_
              · intro a w hR K hK
                obtain ⟨v33, e33, _, q33⟩ := hR.val 6 33 (by kernel_rfl) (by kernel_rfl)
                obtain rfl : v33 = (.bool true) := q33
                obtain ⟨v43, e43, _, q43⟩ := hR.val 16 43 (by kernel_rfl) (by kernel_rfl)
                obtain rfl : v43 = (.bool true) := q43
                rw [if_pos (hR.wants (o := _) rfl (by kernel_rfl : depB _ 3 = true) (by kernel_rfl : dstAt _ 3 = some 30) (fun _ h => h))]
                have hB := hR.bel
                clear hR
                go_simp
                exact hK _ _ (belowSame _) rfl
              refine steps_cons rfl ?_ ?_
              · intro a w hR K hK
                obtain ⟨v30, e30, _, q30⟩ := hR.val 3 30 (by kernel_rfl) (by kernel_rfl)
                obtain rfl : v30 = (.bool false) := q30
                obtain ⟨v44, e44, _, q44⟩ := hR.val 17 44 (by kernel_rfl) (by kernel_rfl)
                obtain rfl : v44 = (.bool true) := q44
                rw [if_pos (wanted_none rfl)]
                have hB := hR.bel
                clear hR
                go_simp
                exact hK _ _ (belowSame _) rfl
              exact steps_nil
            · intro a' w' hF
              obtain ⟨v45, e45, _, q45⟩ := hF.val 18 45 (by decide) (by kernel_rfl)
              obtain rfl : v45 = (.bool true) := q45
              have hB := belowUndrew hF.bel
              have hf := hF.frame
              rw [show dsts _ = [27, 28, 29, 30, 31, 32, 33, 34, 35, 36, 37, 38, 39, 40, 41, 42, 43, 44, 45] from by kernel_rfl] at hf
              obtain ⟨z27, h27⟩ : ∃ z, a'.tmps.getD 27 undef = z := ⟨_, rfl⟩
              obtain ⟨z28, h28⟩ : ∃ z, a'.tmps.getD 28 undef = z := ⟨_, rfl⟩
              obtain ⟨z29, h29⟩ : ∃ z, a'.tmps.getD 29 undef = z := ⟨_, rfl⟩
              obtain ⟨z30, h30⟩ : ∃ z, a'.tmps.getD 30 undef = z := ⟨_, rfl⟩
              obtain ⟨z31, h31⟩ : ∃ z, a'.tmps.getD 31 undef = z := ⟨_, rfl⟩
              obtain ⟨z32, h32⟩ : ∃ z, a'.tmps.getD 32 undef = z := ⟨_, rfl⟩
              obtain ⟨z33, h33⟩ : ∃ z, a'.tmps.getD 33 undef = z := ⟨_, rfl⟩
              obtain ⟨z34, h34⟩ : ∃ z, a'.tmps.getD 34 undef = z := ⟨_, rfl⟩
              obtain ⟨z35, h35⟩ : ∃ z, a'.tmps.getD 35 undef = z := ⟨_, rfl⟩
              obtain ⟨z36, h36⟩ : ∃ z, a'.tmps.getD 36 undef = z := ⟨_, rfl⟩
              obtain ⟨z37, h37⟩ : ∃ z, a'.tmps.getD 37 undef = z := ⟨_, rfl⟩
              obtain ⟨z38, h38⟩ : ∃ z, a'.tmps.getD 38 undef = z := ⟨_, rfl⟩
              obtain ⟨z39, h39⟩ : ∃ z, a'.tmps.getD 39 undef = z := ⟨_, rfl⟩
              obtain ⟨z40, h40⟩ : ∃ z, a'.tmps.getD 40 undef = z := ⟨_, rfl⟩
              obtain ⟨z41, h41⟩ : ∃ z, a'.tmps.getD 41 undef = z := ⟨_, rfl⟩
              obtain ⟨z42, h42⟩ : ∃ z, a'.tmps.getD 42 undef = z := ⟨_, rfl⟩
              obtain ⟨z43, h43⟩ : ∃ z, a'.tmps.getD 43 undef = z := ⟨_, rfl⟩
              obtain ⟨z44, h44⟩ : ∃ z, a'.tmps.getD 44 undef = z := ⟨_, rfl⟩
              simp only [List.foldl_cons, List.foldl_nil, h27, h28, h29, h30, h31, h32, h33, h34, h35, h36, h37, h38, h39, h40, h41, h42, h43, h44, e45] at hf
              simp only [List.setIfInBounds_toArray, List.set_cons_zero, List.set_cons_succ] at hf
              clear hF e45 h27 h28 h29 h30 h31 h32 h33 h34 h35 h36 h37 h38 h39 h40 h41 h42 h43 h44
              subst hf
              have HB3 := Lib.hid (HB2.out.trans (hB.mono HB2.out.size))
              clear hB
              go_wp2_with fail
              go_ret
              exact ⟨rfl, HBL.out.trans (HB3.out.mono HBL.out.size)⟩
          · have e4 : decide (x.b ≤ y.b) = false := by simpa using hle
            have hri : riseB xs (j + 1 + 1) = true := by
              unfold riseB
              rw [HK.out.1, HGK.out, KRR.out, show j + 1 - 1 = j by omega, hy]
              simp; omega
            have HRI := Lib.hid hri
            clear hri hy
            refine wp_region_inv (fun i' v' w' => ([(fun v' _ => v' = (.agg #[.int .i64 x.b, .int .u64 x.v, .string x.d])), (fun v' _ => v' = (.bool true)), (fun v' _ => v' = (.bool false)), (fun v' _ => v' = (.bool false)), (fun v' _ => v' = (.int .i64 ((j + 1 : Nat) : Int))), (fun v' _ => v' = (.bool true)), (fun v' _ => v' = (.bool true)), (fun v' _ => v' = (.pointer (some ⟨q, 0, none⟩))), (fun v' _ => v' = (.int .i64 x.b)), (fun v' _ => v' = (.pointer (some ⟨x0, 2, none⟩))), (fun v' _ => v' = (.slice (some ⟨b, off, none⟩) n c)), (fun v' _ => v' = (.int .i64 ((j + 1 : Nat) : Int))), (fun v' _ => v' = (.int .i64 (j : Int))), (fun v' _ => v' = (.pointer (some ⟨b, off + j * 3, none⟩))), (fun v' _ => v' = (.pointer (some ⟨b, off + j * 3, none⟩))), (fun v' _ => v' = (.int .i64 y.b)), (fun v' _ => v' = (.bool false)), (fun v' _ => v' = (.bool false)), (fun v' _ => v' = (.bool false))] : List (Value → World → Prop)).getD i' (fun _ _ => True) v' w') (by kernel_rfl) (by kernel_rfl) (stab_list (by
                repeat (first | exact allStab_nil | refine allStab_cons (stab_eq _) ?_ | refine allStab_cons (stab_slice _ _) ?_))) ?_ ?_
            · refine steps_cons rfl ?_ ?_
              · intro a w hR K hK
                have e4 : a.tmps.getD 4 undef = (.pointer (some ⟨q, 0, none⟩)) := hR.old 4 (by kernel_rfl) rfl
                rw [if_pos (wanted_none rfl)]
                have hc0 := (hR.bel.cell (p := ⟨q, 0, none⟩) HQ.out).trans d0
                have hc1 := (hR.bel.cell (p := ⟨q, 1, none⟩) HQ.out).trans d1
                have hc2 := (hR.bel.cell (p := ⟨q, 2, none⟩) HQ.out).trans d2
                clear hR
                go_simp
                exact hK _ _ (belowSame _) rfl
              refine steps_cons rfl ?_ ?_
              · intro a w hR K hK
                obtain ⟨v27, e27, _, q27⟩ := hR.val 0 27 (by kernel_rfl) (by kernel_rfl)
                obtain rfl : v27 = (.agg #[.int .i64 x.b, .int .u64 x.v, .string x.d]) := q27
                rw [if_pos (wanted_none rfl)]
                have hB := hR.bel
                clear hR
                go_simp
                refine (KRB.out _).mono ?_
                rintro e w' ⟨rfl, hw⟩
                exact hK _ _ (by first | exact belowOfEq hw | exact hw) rfl
              refine steps_cons rfl ?_ ?_
              · intro a w hR K hK
                obtain ⟨v28, e28, _, q28⟩ := hR.val 1 28 (by kernel_rfl) (by kernel_rfl)
                obtain rfl : v28 = (.bool true) := q28
                rw [if_pos (wanted_none rfl)]
                have hB := hR.bel
                clear hR
                go_simp
                exact hK _ _ (belowSame _) rfl
              refine steps_cons rfl ?_ ?_
              · intro a w hR K hK
                obtain ⟨v29, e29, _, q29⟩ := hR.val 2 29 (by kernel_rfl) (by kernel_rfl)
                obtain rfl : v29 = (.bool false) := q29
                rw [if_pos (wanted_none rfl)]
                have hB := hR.bel
                clear hR
                go_simp
                exact hK _ _ (belowSame _) rfl
              refine steps_cons rfl ?_ ?_
              · intro a w hR K hK
                have e3 : a.tmps.getD 3 undef = (.int .i64 ((j + 1 : Nat) : Int)) := hR.old 3 (by kernel_rfl) rfl
                rw [if_pos (hR.wants (o := _) rfl (by kernel_rfl : depB _ 3 = true) (by kernel_rfl : dstAt _ 3 = some 30) (fun _ h => h))]
                have hB := hR.bel
                clear hR
                go_simp
                exact hK _ _ (belowSame _) rfl
              refine steps_cons rfl ?_ ?_
              · intro a w hR K hK
                obtain ⟨v31, e31, _, q31⟩ := hR.val 4 31 (by kernel_rfl) (by kernel_rfl)
                obtain rfl : v31 = (.int .i64 ((j + 1 : Nat) : Int)) := q31
                rw [if_pos (hR.wants (o := _) rfl (by kernel_rfl : depB _ 3 = true) (by kernel_rfl : dstAt _ 3 = some 30) (fun _ h => h))]
                have hB := hR.bel
                clear hR
                go_simp
                exact hK _ _ (belowSame _) rfl
              refine steps_cons rfl ?_ ?_
              · intro a w hR K hK
                obtain ⟨v32, e32, _, q32⟩ := hR.val 5 32 (by kernel_rfl) (by kernel_rfl)
                obtain rfl : v32 = (.bool true) := q32
                rw [if_pos (hR.wants (o := _) rfl (by kernel_rfl : depB _ 3 = true) (by kernel_rfl : dstAt _ 3 = some 30) (fun _ h => h))]
                have hB := hR.bel
                clear hR
                go_simp
                exact hK _ _ (belowSame _) rfl
              refine steps_cons rfl ?_ ?_
              · intro a w hR K hK
                have e4 : a.tmps.getD 4 undef = (.pointer (some ⟨q, 0, none⟩)) := hR.old 4 (by kernel_rfl) rfl
                rw [if_pos (hR.wants (o := _) rfl (by kernel_rfl : depB _ 6 = true) (by kernel_rfl : dstAt _ 6 = some 33) (fun _ h => h))]
                have hB := hR.bel
                clear hR
                go_simp
                exact hK _ _ (belowSame _) rfl
              refine steps_cons rfl ?_ ?_
              · intro a w hR K hK
                obtain ⟨v34, e34, _, q34⟩ := hR.val 7 34 (by kernel_rfl) (by kernel_rfl)
                obtain rfl : v34 = (.pointer (some ⟨q, 0, none⟩)) := q34
                rw [if_pos (hR.wants (o := _) rfl (by kernel_rfl : depB _ 6 = true) (by kernel_rfl : dstAt _ 6 = some 33) (fun _ h => h))]
                have hc := (hR.bel.cell (p := ⟨q, 0, none⟩) HQ.out).trans d0
                clear hR
                go_simp
                exact hK _ _ (belowSame _) rfl
              refine steps_cons rfl ?_ ?_
              · intro a w hR K hK
                have e1 : a.tmps.getD 1 undef = (.pointer (some ⟨x0, 0, none⟩)) := hR.old 1 (by kernel_rfl) rfl
                rw [if_pos (hR.wants (o := _) rfl (by kernel_rfl : depB _ 6 = true) (by kernel_rfl : dstAt _ 6 = some 33) (fun _ h => h))]
                have hB := hR.bel
                clear hR
                go_simp
                exact hK _ _ (belowSame _) rfl
              refine steps_cons rfl ?_ ?_
              · intro a w hR K hK
                obtain ⟨v36, e36, _, q36⟩ := hR.val 9 36 (by kernel_rfl) (by kernel_rfl)
                obtain rfl : v36 = (.pointer (some ⟨x0, 2, none⟩)) := q36
                rw [if_pos (hR.wants (o := _) rfl (by kernel_rfl : depB _ 6 = true) (by kernel_rfl : dstAt _ 6 = some 33) (fun _ h => h))]
                have hc := (hR.bel.cell (p := ⟨x0, 2, none⟩) HX0.out).trans s2
                clear hR
                go_simp
                exact hK _ _ (belowSame _) rfl
              refine steps_cons rfl ?_ ?_
              · intro a w hR K hK
                have e3 : a.tmps.getD 3 undef = (.int .i64 ((j + 1 : Nat) : Int)) := hR.old 3 (by kernel_rfl) rfl
                rw [if_pos (hR.wants (o := _) rfl (by kernel_rfl : depB _ 6 = true) (by kernel_rfl : dstAt _ 6 = some 33) (fun _ h => h))]
                have hB := hR.bel
                clear hR
                go_simp
                exact hK _ _ (belowSame _) rfl
              refine steps_cons rfl ?_ ?_
              · intro a w hR K hK
                obtain ⟨v38, e38, _, q38⟩ := hR.val 11 38 (by kernel_rfl) (by kernel_rfl)
                obtain rfl : v38 = (.int .i64 ((j + 1 : Nat) : Int)) := q38
                rw [if_pos (hR.wants (o := _) rfl (by kernel_rfl : depB _ 6 = true) (by kernel_rfl : dstAt _ 6 = some 33) (fun _ h => h))]
                have hB := hR.bel
                clear hR
                go_simp
                exact hK _ _ (belowSame _) rfl
              refine steps_cons rfl ?_ ?_
              · intro a w hR K hK
                obtain ⟨v37, e37, _, q37⟩ := hR.val 10 37 (by kernel_rfl) (by kernel_rfl)
                obtain rfl : v37 = (.slice (some ⟨b, off, none⟩) n c) := q37
                obtain ⟨v39, e39, _, q39⟩ := hR.val 12 39 (by kernel_rfl) (by kernel_rfl)
                obtain rfl : v39 = (.int .i64 (j : Int)) := q39
                rw [if_pos (hR.wants (o := _) rfl (by kernel_rfl : depB _ 6 = true) (by kernel_rfl : dstAt _ 6 = some 33) (fun _ h => h))]
                have hB := hR.bel
                clear hR
                go_simp
                exact hK _ _ (belowSame _) rfl
              refine steps_cons rfl ?_ ?_
              · intro a w hR K hK
                obtain ⟨v40, e40, _, q40⟩ := hR.val 13 40 (by kernel_rfl) (by kernel_rfl)
                obtain rfl : v40 = (.pointer (some ⟨b, off + j * 3, none⟩)) := q40
                rw [if_pos (hR.wants (o := _) rfl (by kernel_rfl : depB _ 6 = true) (by kernel_rfl : dstAt _ 6 = some 33) (fun _ h => h))]
                have hB := hR.bel
                clear hR
                go_simp
                exact hK _ _ (belowSame _) rfl
              refine steps_cons rfl ?_ ?_
              · intro a w hR K hK
                obtain ⟨v41, e41, _, q41⟩ := hR.val 14 41 (by kernel_rfl) (by kernel_rfl)
                obtain rfl : v41 = (.pointer (some ⟨b, off + j * 3, none⟩)) := q41
                rw [if_pos (hR.wants (o := _) rfl (by kernel_rfl : depB _ 6 = true) (by kernel_rfl : dstAt _ 6 = some 33) (fun _ h => h))]
                have hc := (hR.bel.cell (p := ⟨b, off + j * 3, none⟩) HBB.out).trans y0
                clear hR
                go_simp
                exact hK _ _ (belowSame _) rfl
              refine steps_cons rfl ?_ ?_
              · intro a w hR K hK
                obtain ⟨v35, e35, _, q35⟩ := hR.val 8 35 (by kernel_rfl) (by kernel_rfl)
                obtain rfl : v35 = (.int .i64 x.b) := q35
                obtain ⟨v42, e42, _, q42⟩ := hR.val 15 42 (by kernel_rfl) (by kernel_rfl)
                obtain rfl : v42 = (.int .i64 y.b) := q42
                rw [if_pos (hR.wants (o := _) rfl (by kernel_rfl : depB _ 6 = true) (by kernel_rfl : dstAt _ 6 = some 33) (fun _ h => h))]
                have hB := hR.bel
                clear hR
                go_simp
                exact hK _ _ (belowSame _) rfl
              refine steps_cons rfl ?_ ?_
              · intro a w hR K hK
                obtain ⟨v33, e33, _, q33⟩ := hR.val 6 33 (by kernel_rfl) (by kernel_rfl)
                obtain rfl : v33 = (.bool true) := q33
                obtain ⟨v43, e43, _, q43⟩ := hR.val 16 43 (by kernel_rfl) (by kernel_rfl)
                obtain rfl : v43 = (.bool false) := q43
                rw [if_pos (hR.wants (o := _) rfl (by kernel_rfl : depB _ 3 = true) (by kernel_rfl : dstAt _ 3 = some 30) (fun _ h => h))]
                have hB := hR.bel
                clear hR
                go_simp
                exact hK _ _ (belowSame _) rfl
              refine steps_cons rfl ?_ ?_
              · intro a w hR K hK
                obtain ⟨v30, e30, _, q30⟩ := hR.val 3 30 (by kernel_rfl) (by kernel_rfl)
                obtain rfl : v30 = (.bool false) := q30
                obtain ⟨v44, e44, _, q44⟩ := hR.val 17 44 (by kernel_rfl) (by kernel_rfl)
                obtain rfl : v44 = (.bool false) := q44
                rw [if_pos (wanted_none rfl)]
                have hB := hR.bel
                clear hR
                go_simp
                exact hK _ _ (belowSame _) rfl
              exact steps_nil
            · intro a' w' hF
              obtain ⟨v45, e45, _, q45⟩ := hF.val 18 45 (by decide) (by kernel_rfl)
              obtain rfl : v45 = (.bool false) := q45
              have hB := belowUndrew hF.bel
              have hf := hF.frame
              rw [show dsts _ = [27, 28, 29, 30, 31, 32, 33, 34, 35, 36, 37, 38, 39, 40, 41, 42, 43, 44, 45] from by kernel_rfl] at hf
              obtain ⟨z27, h27⟩ : ∃ z, a'.tmps.getD 27 undef = z := ⟨_, rfl⟩
              obtain ⟨z28, h28⟩ : ∃ z, a'.tmps.getD 28 undef = z := ⟨_, rfl⟩
              obtain ⟨z29, h29⟩ : ∃ z, a'.tmps.getD 29 undef = z := ⟨_, rfl⟩
              obtain ⟨z30, h30⟩ : ∃ z, a'.tmps.getD 30 undef = z := ⟨_, rfl⟩
              obtain ⟨z31, h31⟩ : ∃ z, a'.tmps.getD 31 undef = z := ⟨_, rfl⟩
              obtain ⟨z32, h32⟩ : ∃ z, a'.tmps.getD 32 undef = z := ⟨_, rfl⟩
              obtain ⟨z33, h33⟩ : ∃ z, a'.tmps.getD 33 undef = z := ⟨_, rfl⟩
              obtain ⟨z34, h34⟩ : ∃ z, a'.tmps.getD 34 undef = z := ⟨_, rfl⟩
              obtain ⟨z35, h35⟩ : ∃ z, a'.tmps.getD 35 undef = z := ⟨_, rfl⟩
              obtain ⟨z36, h36⟩ : ∃ z, a'.tmps.getD 36 undef = z := ⟨_, rfl⟩
              obtain ⟨z37, h37⟩ : ∃ z, a'.tmps.getD 37 undef = z := ⟨_, rfl⟩
              obtain ⟨z38, h38⟩ : ∃ z, a'.tmps.getD 38 undef = z := ⟨_, rfl⟩
              obtain ⟨z39, h39⟩ : ∃ z, a'.tmps.getD 39 undef = z := ⟨_, rfl⟩
              obtain ⟨z40, h40⟩ : ∃ z, a'.tmps.getD 40 undef = z := ⟨_, rfl⟩
              obtain ⟨z41, h41⟩ : ∃ z, a'.tmps.getD 41 undef = z := ⟨_, rfl⟩
              obtain ⟨z42, h42⟩ : ∃ z, a'.tmps.getD 42 undef = z := ⟨_, rfl⟩
              obtain ⟨z43, h43⟩ : ∃ z, a'.tmps.getD 43 undef = z := ⟨_, rfl⟩
              obtain ⟨z44, h44⟩ : ∃ z, a'.tmps.getD 44 undef = z := ⟨_, rfl⟩
              simp only [List.foldl_cons, List.foldl_nil, h27, h28, h29, h30, h31, h32, h33, h34, h35, h36, h37, h38, h39, h40, h41, h42, h43, h44, e45] at hf
              simp only [List.setIfInBounds_toArray, List.set_cons_zero, List.set_cons_succ] at hf
              clear hF e45 h27 h28 h29 h30 h31 h32 h33 h34 h35 h36 h37 h38 h39 h40 h41 h42 h43 h44
              subst hf
              have HB3 := Lib.hid (HB2.out.trans (hB.mono HB2.out.size))
              clear hB
              go_wp2_with fail
              go_roundw
              case rel => exact ⟨j + 1 + 1, by go_num, by omega, Lib.hid ⟨HRI.out, HB3.out⟩⟩
              case measure => simp [intOf]; omega
    · have hkn : k = n := by omega
      have hRR := HR.out
      have s2 : wr.cell? ⟨x0, 2, none⟩ = some (.slice A n c) := (HK.out.2.cell (p := ⟨x0, 2, none⟩) HLT.out).trans C2.out
      rw [← hkn, HK.out.1, if_pos rfl, hkn] at hRR
      by_cases h60 : 60 < n
      · rw [if_pos h60] at hRR
        subst hRR
        have e6 : decide ((60 : Int) < (n : Int)) = true := by simp; omega
        go_wp2_with fail
        go_ret
        exact ⟨rfl, HBL.out.trans (HK.out.2.mono HBL.out.size)⟩
      · rw [if_neg h60] at hRR
        subst hRR
        have e6 : decide ((60 : Int) < (n : Int)) = false := by simp; omega
        go_wp2_with fail
        go_ret
        exact ⟨rfl, HBL.out.trans (HK.out.2.mono HBL.out.size)⟩
end Go.Proofs.YtakilnpfhljgfaaGreat.RC

/- rec: body, Put. No condition. -/
namespace Go.Proofs.YtakilnpfhljgfaaGreat.RC
set_option maxRecDepth 100000
open Go.RowKit Go.Proofs.YtakilnpfhljgfaaGreat.WI Go.Proofs.YtakilnpfhljgfaaGreat.SM
set_option linter.unusedVariables false
set_option linter.unusedSimpArgs false

def numsT (x : Im) : ByteArray := strOfNums (([] ++ lowB x.b 4) ++ lowB x.v 8)
theorem numsT_size (x : Im) : (numsT x).size = 12 := by unfold numsT; rw [strOf_size]; simp [lowB_len]
def recT (x : Im) : ByteArray := numsT x ++ x.d
def bodyK (xs : List Im) : Nat → ByteArray
  | 0 => ⟨#[]⟩
  | k + 1 => bodyK xs k ++ recT (xs.getD k im0)
/-- All of them may be put. -/
def Good (xs : List Im) : Prop := ∀ x ∈ xs, 0 ≤ x.b ∧ x.b < 4096 ∧ x.d.size = 96 ∧ 0 ≤ x.v ∧ x.v ≤ 18446744073709551615
theorem Good.at_ {xs : List Im} (h : Good xs) {k : Nat} (hk : k < xs.length) : 0 ≤ (xs.getD k im0).b ∧ (xs.getD k im0).b < 4096 ∧ (xs.getD k im0).d.size = 96 ∧ 0 ≤ (xs.getD k im0).v ∧ (xs.getD k im0).v ≤ 18446744073709551615 := by
  refine h _ ?_
  rw [List.getD_eq_getElem?_getD, List.getElem?_eq_getElem hk]
  exact List.getElem_mem hk
theorem bodyK_size {xs : List Im} (h : Good xs) {k : Nat} (hk : k ≤ xs.length) : (bodyK xs k).size = 108 * k := by
  induction k with
  | zero => rfl
  | succ k ih =>
    unfold bodyK recT
    rw [ByteArray.size_append, ByteArray.size_append, ih (by omega), numsT_size, (h.at_ (show k < xs.length by omega)).2.2.1]
    omega
set_option maxHeartbeats 4000000 in
theorem body_any (A : Option Addr) (n c : Nat) (xs : List Im) (w : World) (h : Ims w A n c xs) (hg : Good xs) (hn : n ≤ 100000) :
    Calls Tryz.prog 77 #[.slice A n c] w fun x w' => x = .returned (.string (bodyK xs n)) ∧ Below w.heap.size w w' := by
  have hln := h.2.2.1
  have hlc := h.1
  have HX := Lib.hid h
  have HG := Lib.hid hg
  have HN := Lib.hid hln
  clear h hg hln
  go_enter Tryz.func77, Tryz.ntmps77
  go_wp2_with fail
  go_loopw [3, 5, 6, 7, 8, 11] (fun s _ _ _ _ i wr => ∃ k : Nat, i = .int .i64 (k : Int) ∧ s = .string (bodyK xs k) ∧ k ≤ n ∧ Hid (Below w.heap.size w wr)) (fun _ _ _ _ _ i _ => n - (intOf i).toNat)
  case atStart => exact ⟨0, rfl, rfl, by omega, Lib.hid (belowSame w)⟩
  case round =>
    obtain ⟨k, rfl, rfl, hk, HB⟩ := hrel
    by_cases hlt : k < n
    · obtain ⟨b, off, x, rfl, hx, hok, hbl, hkc, c0, c1, c2⟩ := (HX.out.old HB.out).at_ hlt
      have hgk : xs.getD k im0 = x := by rw [List.getD_eq_getElem?_getD, hx]; rfl
      have hgd := HG.out.at_ (show k < xs.length by have := HN.out; omega)
      rw [hgk] at hgd
      have e1 : IntKind.i64.wrap ((k : Int) + 1) = (k : Int) + 1 := IntWalk.i64_in _ (by omega)
      have wb : IntKind.u64.wrap x.b = x.b := IntWalk.u64_in _ (by omega)
      have hsz := bodyK_size HG.out (k := k) (by have := HN.out; omega)
      have hbk : bodyK xs (k + 1) = bodyK xs k ++ (numsT x ++ x.d) := by rw [← hgk]; rfl
      obtain ⟨T, hT⟩ : ∃ T, bodyK xs k = T := ⟨_, rfl⟩
      obtain ⟨U, hU⟩ : ∃ U, numsT x = U := ⟨_, rfl⟩
      have hus := numsT_size x
      rw [hT] at hsz hbk ⊢
      rw [hU] at hus hbk
      have hds := hgd.2.2.1
      obtain ⟨xb, hxb⟩ : ∃ z, x.b = z := ⟨_, rfl⟩
      obtain ⟨xv, hxv⟩ : ∃ z, x.v = z := ⟨_, rfl⟩
      obtain ⟨xd, hxd⟩ : ∃ z, x.d = z := ⟨_, rfl⟩
      have hU2 : strOfNums (([] ++ lowB xb 4) ++ lowB xv 8) = U := by rw [← hU, ← hxb, ← hxv]; rfl
      rw [hxb] at wb c0 hgd
      rw [hxv] at c1 hgd
      rw [hxd] at c2 hds hbk hgd
      have hz1 : ¬ 9223372036854775807 < U.size + xd.size := by omega
      have hz2 : ¬ 9223372036854775807 < T.size + (U ++ xd).size := by rw [ByteArray.size_append]; omega
      have hz3 : ¬ 9223372036854775807 < T.size + (U.size + xd.size) := by omega
      have HU := Lib.hid hU2
      have HGD := Lib.hid hgd
      have HBK := Lib.hid hbk
      clear hx hok hgk hgd hT hU hU2 hbk hxb hxv hxd hsz hus hds
      go_upto_region 6 with fail
      have hW := wr_new (wr.alloc (.cells #[.int .i64 xb, .int .u64 xv, .string xd] TIm))
      have hb1 := Blk.new wr TIm #[.int .i64 xb, .int .u64 xv, .string xd]
      have hsz1 : (wr.alloc (.cells #[.int .i64 xb, .int .u64 xv, .string xd] TIm)).heap.size = wr.heap.size + 1 := by simp
      have hbl1 : Below wr.heap.size wr (wr.alloc (.cells #[.int .i64 xb, .int .u64 xv, .string xd] TIm)) := (Below.refl _ wr).alloc (Nat.le_refl _) _
      rw [hsz1] at hW
      obtain ⟨W1, hW1⟩ : ∃ W1, wr.alloc (.cells #[.int .i64 xb, .int .u64 xv, .string xd] TIm) = W1 := ⟨_, rfl⟩
      rw [hW1] at hW hb1 hbl1 ⊢
      obtain ⟨W2, hW2⟩ : ∃ W2, W1.alloc (.cells #[.slice none 0 0, .int .i64 0] 141) = W2 := ⟨_, rfl⟩
      rw [hW2] at hW ⊢
      obtain ⟨g, hg⟩ : ∃ g, wr.heap.size + 1 = g := ⟨_, rfl⟩
      rw [hg] at hW ⊢
      have HGS : Hid (wr.heap.size ≤ g) := Lib.hid (by omega)
      obtain ⟨x0, hx0⟩ : ∃ x, wr.heap.size = x := ⟨_, rfl⟩
      rw [hx0] at hb1 hg ⊢
      have hxg : x0 < g := by omega
      have C0 : Hid (W1.cell? ⟨x0, 0, none⟩ = some (.int .i64 xb)) := Lib.hid (hb1.cell 0)
      have C1 : Hid (W1.cell? ⟨x0, 1, none⟩ = some (.int .u64 xv)) := Lib.hid (hb1.cell 1)
      have C2 : Hid (W1.cell? ⟨x0, 2, none⟩ = some (.string xd)) := Lib.hid (hb1.cell 2)
      have t0 := hW.cell hxg C0.out
      have t1 := hW.cell hxg C1.out
      have t2 := hW.cell hxg C2.out
      have k1 := num_4 hW.drew (by simp) xb HGD.out.1 (by have := HGD.out; omega)
      have HBL := Lib.hid hbl1
      clear hW hb1 hsz1 hbl1 hW1 hW2 hg hx0 c0 c1 c2
      go_region_held3 (fun W => W.cell? ⟨x0, 0, none⟩ = some (.int .i64 xb) ∧ W.cell? ⟨x0, 1, none⟩ = some (.int .u64 xv) ∧ W.cell? ⟨x0, 2, none⟩ = some (.string xd)) (go_keep) (first
        | (go_at_call 98; (with_reducible refine k1.mono ?_); rintro x w3 ⟨rfl, h3⟩; have s0 := h3.cell hxg C0.out; have s1 := h3.cell hxg C1.out; have s2 := h3.cell hxg C2.out; have k2 := num_8 h3 (by simp [lowB_len]) xv HGD.out.2.2.2.1 HGD.out.2.2.2.2; clear k1 h3)
        | (go_at_call 98; (with_reducible refine k2.mono ?_); rintro x w4 ⟨rfl, h4⟩; have s0 := h4.cell hxg C0.out; have s1 := h4.cell hxg C1.out; have s2 := h4.cell hxg C2.out; have k3 := bytes_any h4 (by simp [lowB_len]); rw [HU.out] at k3; have H4 := Lib.hid h4.bel; clear k2 h4)
        | (go_at_call 99; (with_reducible refine k3.mono ?_); rintro x w5 ⟨rfl, rfl⟩; clear k3))
      go_wp2_with fail
      go_roundw
      case rel =>
        have hA := HBL.out.trans (H4.out.mono HGS.out)
        exact ⟨k + 1, by go_num, by rw [HBK.out], by omega, Lib.hid (HB.out.trans (hA.mono HB.out.size))⟩
      case measure => simp [intOf]; omega
    · have hkn : k = n := by omega
      obtain ⟨T, hT⟩ : ∃ T, bodyK xs k = T := ⟨_, rfl⟩
      rw [hT]
      have HT := Lib.hid (hkn ▸ hT)
      clear hT hkn
      go_wp2_with fail
      go_ret
      exact ⟨by rw [HT.out]; rfl, HB.out⟩
end Go.Proofs.YtakilnpfhljgfaaGreat.RC

/- rec: Put. No condition. -/
namespace Go.Proofs.YtakilnpfhljgfaaGreat.RC
set_option maxRecDepth 100000
open Go.RowKit Go.Proofs.YtakilnpfhljgfaaGreat.WI Go.Proofs.YtakilnpfhljgfaaGreat.SM
set_option linter.unusedVariables false
set_option linter.unusedSimpArgs false

def partT (B : ByteArray) (k : Nat) : ByteArray := B.extract (42 * k) (min (42 * (k + 1)) B.size)
def secT (e l : Int) (n : Nat) (B : ByteArray) (k : Nat) : ByteArray := stampT (labelT e l (k : Int) (n : Int) ++ partT B k) 64
def putK (e l : Int) (n : Nat) (B : ByteArray) : Nat → ByteArray
  | 0 => ⟨#[]⟩
  | k + 1 => putK e l n B k ++ secT e l n B k
def secsN (n : Nat) : Nat := (108 * n + 41) / 42
/-- The bytes of a record. -/
def putT (e l : Int) (xs : List Im) : ByteArray := putK e l xs.length (bodyK xs xs.length) (secsN xs.length)
theorem secsI_nat {n : Nat} (h1 : 1 ≤ n) (h2 : n ≤ 60) : secsI (n : Int) = (secsN n : Int) := by
  unfold secsI secsN
  rw [if_neg (by omega)]
  omega
theorem stampT_size (s : ByteArray) (n : Nat) (h1 : 4 ≤ n) (h2 : s.size ≤ n - 4) : (stampT s n).size = n := by
  unfold stampT padT
  rw [ByteArray.size_append, ByteArray.size_append, zerosT_size, fourT_size]
  omega
theorem partT_size (B : ByteArray) (k : Nat) : (partT B k).size ≤ 42 := by
  unfold partT
  rw [ByteArray.size_extract]
  omega
theorem secT_size (e l : Int) (n : Nat) (B : ByteArray) (k : Nat) : (secT e l n B k).size = 64 := by
  unfold secT
  refine stampT_size _ 64 (by omega) ?_
  rw [ByteArray.size_append, labelT_size]
  have := partT_size B k
  omega
theorem putK_size (e l : Int) (n : Nat) (B : ByteArray) (k : Nat) : (putK e l n B k).size = 64 * k := by
  induction k with
  | zero => rfl
  | succ k ih => unfold putK; rw [ByteArray.size_append, ih, secT_size]; omega
theorem rise_at {xs : List Im} {n : Nat} (h : riseB xs n = true) : ∀ k, k < n → rightB (xs.getD k im0) = true := by
  induction n with
  | zero => intro k hk; omega
  | succ n ih =>
    intro k hk
    unfold riseB at h
    simp only [Bool.and_eq_true] at h
    by_cases e : k = n
    · subst e; exact h.1.2
    · exact ih h.1.1 k (by omega)
theorem right_iff {x : Im} (h : rightB x = true) : 0 ≤ x.b ∧ x.b < 4096 ∧ x.d.size = 96 := by
  unfold rightB at h
  simp at h
  exact ⟨h.1.1, h.1.2, h.2⟩
/-- A record that may be. -/
structure Fits (e l : Int) (xs : List Im) : Prop where
  e : e ≠ 0
  l : l ≠ 0
  n1 : 1 ≤ xs.length
  n2 : xs.length ≤ 60
  rise : riseB xs xs.length = true
theorem wrong_iff {e l : Int} {xs : List Im} : wrongE e l xs = 0 ↔ Fits e l xs := by
  unfold wrongE
  constructor
  · intro h
    split at h
    · cases h
    · rename_i hn
      split at h
      · rename_i hr
        split at h
        · cases h
        · exact ⟨fun e => hn (.inl e), fun e => hn (.inr (.inl e)), by have : xs.length ≠ 0 := fun e => hn (.inr (.inr e)); omega, by omega, hr⟩
      · cases h
  · intro h
    rw [if_neg (by rintro (a | a | a); exact h.e a; exact h.l a; have := h.n1; omega), if_pos h.rise, if_neg (by have := h.n2; omega)]
theorem Fits.good {e l : Int} {xs : List Im} (h : Fits e l xs) (hok : ∀ x ∈ xs, ImOk x) : Good xs := by
  intro x hx
  obtain ⟨k, hk, rfl⟩ := List.mem_iff_getElem.1 hx
  have hr := right_iff (rise_at h.rise k hk)
  rw [List.getD_eq_getElem?_getD, List.getElem?_eq_getElem hk] at hr
  have := (hok _ (List.getElem_mem hk)).v
  exact ⟨hr.1, hr.2.1, hr.2.2, this.1, this.2⟩
theorem put_bad (e l : Int) (A : Option Addr) (n c : Nat) (xs : List Im) (w : World) (h : Ims w A n c xs) (hw : wrongE e l xs ≠ 0) :
    Calls Tryz.prog 40 #[.agg #[.int .u64 e, .int .u64 l, .slice A n c]] w fun x w' => x = .returned (.tuple #[.string ⟨#[]⟩, .int .i64 (wrongE e l xs)]) ∧ Below w.heap.size w w' := by
  have kw := wrong_any e l A n c xs (w.alloc (.cells #[.int .u64 e, .int .u64 l, .slice A n c] 82)) (h.old ((Below.refl _ w).alloc (Nat.le_refl _) _))
  obtain ⟨E, hE⟩ : ∃ E, wrongE e l xs = E := ⟨_, rfl⟩
  rw [hE] at kw hw ⊢
  have n1 : (E != 0) = true := by simpa using hw
  clear h hE hw
  go_enter Tryz.func40, Tryz.ntmps40
  go_wp2_with (go_at_call 76; refine kw.mono ?_; rintro x w1 ⟨rfl, hb⟩; have HB := Lib.hid hb; clear hb kw)
  go_ret2
  have hA := (Below.refl _ w).alloc (Nat.le_refl _) (.cells #[.int .u64 e, .int .u64 l, .slice A n c] 82)
  exact ⟨rfl, hA.trans (HB.out.mono hA.size)⟩
set_option maxHeartbeats 8000000 in
theorem put_ok (e l : Int) (A : Option Addr) (n c : Nat) (xs : List Im) (w : World) (h : Ims w A n c xs) (hf : Fits e l xs) (he : 0 ≤ e ∧ e ≤ 18446744073709551615) (hl : 0 ≤ l ∧ l ≤ 18446744073709551615) :
    Calls Tryz.prog 40 #[.agg #[.int .u64 e, .int .u64 l, .slice A n c]] w fun x w' => x = .returned (.tuple #[.string (putT e l xs), .int .i64 0]) ∧ Below w.heap.size w w' := by
  have hln := h.2.2.1
  have hgood := hf.good h.2.2.2.1
  have hn1 := hf.n1
  have hn2 := hf.n2
  rw [hln] at hn1 hn2
  have hb0 : Below w.heap.size w (w.alloc (.cells #[.int .u64 e, .int .u64 l, .slice A n c] 82)) := (Below.refl _ w).alloc (Nat.le_refl _) _
  have kw := wrong_any e l A n c xs (w.alloc (.cells #[.int .u64 e, .int .u64 l, .slice A n c] 82)) (h.old hb0)
  rw [wrong_iff.2 hf] at kw
  have kb := fun W (hb : Below w.heap.size w W) => body_any A n c xs W (h.old hb) hgood (by omega)
  have ks := fun W => sectors_any (n : Int) W
  rw [secsI_nat hn1 hn2] at ks
  obtain ⟨m, hm⟩ : ∃ m, secsN n = m := ⟨_, rfl⟩
  rw [hm] at ks
  have hm2 : m ≤ 155 := by rw [← hm]; unfold secsN; omega
  have hm3 : 42 * m < 108 * n + 42 := by rw [← hm]; unfold secsN; omega
  have hput : putT e l xs = putK e l n (bodyK xs n) m := by unfold putT; rw [hln, hm]
  rw [hput]
  have hbs := bodyK_size hgood (k := n) (by omega)
  obtain ⟨Bd, hBd⟩ : ∃ B, bodyK xs n = B := ⟨_, rfl⟩
  rw [hBd] at kb hbs ⊢
  have klb := fun (k : Nat) (hk : k < m) W => label_any e l (k : Int) (n : Int) A n c he hl ⟨by omega, by omega⟩ ⟨by omega, by omega⟩ W
  have KLA := Lib.hid klb
  have KB := Lib.hid kb
  clear h hf hln hgood hm hput hBd klb kb
  go_enter Tryz.func40, Tryz.ntmps40
  go_upto_region 1 with fail
  have hbk := Blk.new w 82 #[.int .u64 e, .int .u64 l, .slice A n c]
  obtain ⟨W1, hW1⟩ : ∃ W1, w.alloc (.cells #[.int .u64 e, .int .u64 l, .slice A n c] 82) = W1 := ⟨_, rfl⟩
  rw [hW1] at hbk hb0 kw ⊢
  obtain ⟨x0, hx0⟩ : ∃ x, w.heap.size = x := ⟨_, rfl⟩
  rw [hx0] at hbk ⊢
  have HXX := Lib.hid hx0
  have c0 : W1.cell? ⟨x0, 0, none⟩ = some (.int .u64 e) := hbk.cell 0
  have c1 : W1.cell? ⟨x0, 1, none⟩ = some (.int .u64 l) := hbk.cell 1
  have c2 : W1.cell? ⟨x0, 2, none⟩ = some (.slice A n c) := hbk.cell 2
  have HLT : Hid (x0 < W1.heap.size) := Lib.hid hbk.lt
  have C0 := Lib.hid c0
  have C1 := Lib.hid c1
  have C2 := Lib.hid c2
  have HB0 := Lib.hid hb0
  clear hbk hW1 hx0 hb0
  go_upto_region 6 with (first
    | (go_at_call 76; refine kw.mono ?_; rintro x w2 ⟨rfl, hb2⟩; have s0 := (hb2.cell (p := ⟨x0, 0, none⟩) HLT.out).trans C0.out; have s1 := (hb2.cell (p := ⟨x0, 1, none⟩) HLT.out).trans C1.out; have s2 := (hb2.cell (p := ⟨x0, 2, none⟩) HLT.out).trans C2.out; have HB2 := Lib.hid hb2; clear hb2 kw c0 c1 c2)
    | (go_at_call 77; refine (KB.out _ (HB0.out.trans (HB2.out.mono HB0.out.size))).mono ?_; rintro x w3 ⟨rfl, hb3⟩; have hb23 := HB2.out.trans (hb3.mono HB2.out.size); have z0 := (hb23.cell (p := ⟨x0, 0, none⟩) HLT.out).trans C0.out; have z1 := (hb23.cell (p := ⟨x0, 1, none⟩) HLT.out).trans C1.out; have z2 := (hb23.cell (p := ⟨x0, 2, none⟩) HLT.out).trans C2.out; have HB3 := Lib.hid hb23; clear hb3 hb23)
    | (go_at_call 42; refine (ks _).mono ?_; rintro x w4 ⟨rfl, rfl⟩))
  clear s0 s1 s2 z0 z1 z2 ks KB
  go_loopw [6, 7, 8, 9, 22] (fun s _ _ _ i wr => ∃ k : Nat, i = .int .i64 (k : Int) ∧ s = .string (putK e l n Bd k) ∧ k ≤ m ∧ Hid (Below W1.heap.size W1 wr)) (fun _ _ _ _ i _ => m - (intOf i).toNat)
  case atStart => exact ⟨0, rfl, rfl, by omega, HB3⟩
  case round =>
    clear HB3 HB2
    obtain ⟨k, rfl, rfl, hk, HB⟩ := hrel
    by_cases hlt : k < m
    · have klb := KLA.out k hlt
      obtain ⟨LB, hLB⟩ : ∃ LB, labelT e l (k : Int) (n : Int) = LB := ⟨_, rfl⟩
      obtain ⟨PT, hPT⟩ : ∃ PT, partT Bd k = PT := ⟨_, rfl⟩
      have hls := labelT_size e l (k : Int) (n : Int)
      have hps := partT_size Bd k
      rw [hLB] at hls klb
      rw [hPT] at hps
      have kst := fun W => stamp_ok (LB ++ PT) 64 (by omega) (by omega) (by rw [ByteArray.size_append]; omega) W
      obtain ⟨ST, hST⟩ : ∃ ST, stampT (LB ++ PT) 64 = ST := ⟨_, rfl⟩
      rw [hST] at kst
      have hss : ST.size = 64 := by rw [← hST]; exact stampT_size _ 64 (by omega) (by rw [ByteArray.size_append]; omega)
      have hpk : putK e l n Bd (k + 1) = putK e l n Bd k ++ ST := by show _ ++ secT e l n Bd k = _; unfold secT; rw [hLB, hPT, hST]
      have hpz := putK_size e l n Bd k
      obtain ⟨PK, hPK⟩ : ∃ PK, putK e l n Bd k = PK := ⟨_, rfl⟩
      rw [hPK] at hpk hpz ⊢
      obtain ⟨bs, hbs2⟩ : ∃ bs, Bd.size = bs := ⟨_, rfl⟩
      obtain ⟨M, hM⟩ : ∃ M : Nat, min (42 * (k + 1)) Bd.size = M := ⟨_, rfl⟩
      have hM1 : 42 * k ≤ M ∧ M ≤ Bd.size := by omega
      have hsl : ∀ w : World, (Instr.slice 9 (.string Bd) (some (.int .i64 ((k : Int) * 42))) (some (.int .i64 (M : Int))) none).run Tryz.prog w = .ok (.string PT) w := fun w => by
        rw [run_slice_string (P := Tryz.prog) w _ Bd .i64 .i64 ((k : Int) * 42) (M : Int) Tryz.underlying9 (by omega) (by omega) (by omega)]
        rw [← hPT]
        unfold partT
        rw [hM, show ((k : Int) * 42).toNat = 42 * k by omega, show ((M : Int)).toNat = M by omega]
      have hmi : min (((k : Int) + 1) * 42) (bs : Int) = (M : Int) := by omega
      have hz1 : ¬ 9223372036854775807 < LB.size + PT.size := by omega
      have hz2 : ¬ 9223372036854775807 < PK.size + ST.size := by omega
      have e1 : IntKind.i64.wrap ((k : Int) + 1) = (k : Int) + 1 := IntWalk.i64_in _ (by omega)
      have e2 : IntKind.i64.wrap ((k : Int) * 42) = (k : Int) * 42 := IntWalk.i64_in _ (by omega)
      have e3 : IntKind.i64.wrap (((k : Int) + 1) * 42) = ((k : Int) + 1) * 42 := IntWalk.i64_in _ (by omega)
      have S0 : Hid (wr.cell? ⟨x0, 0, none⟩ = some (.int .u64 e)) := Lib.hid ((HB.out.cell (p := ⟨x0, 0, none⟩) HLT.out).trans C0.out)
      have S1 : Hid (wr.cell? ⟨x0, 1, none⟩ = some (.int .u64 l)) := Lib.hid ((HB.out.cell (p := ⟨x0, 1, none⟩) HLT.out).trans C1.out)
      have S2 : Hid (wr.cell? ⟨x0, 2, none⟩ = some (.slice A n c)) := Lib.hid ((HB.out.cell (p := ⟨x0, 2, none⟩) HLT.out).trans C2.out)
      have HXL : Hid (x0 < wr.heap.size) := Lib.hid (Nat.lt_of_lt_of_le HLT.out HB.out.size)
      have KLB := Lib.hid klb
      have KST := Lib.hid kst
      have HPK := Lib.hid hpk
      clear klb kst hpk hPK hST hPT hLB hM hls hps hpz hss hbs
      go_upto_region 8 with fail
      refine wp_region_inv (fun i' v' w' => ([(fun v' _ => v' = (.agg #[.int .u64 e, .int .u64 l, .slice A n c])), (fun v' _ => v' = (.int .i64 (k : Int))), (fun v' _ => v' = (.pointer (some ⟨x0, 2, none⟩))), (fun v' _ => v' = (.slice A n c)), (fun v' _ => v' = (.int .i64 (n : Int))), (fun v' _ => v' = (.string LB)), (fun v' _ => v' = (.string Bd)), (fun v' _ => v' = (.int .i64 (k : Int))), (fun v' _ => v' = (.int .i64 ((k : Int) * 42))), (fun v' _ => v' = (.int .i64 (k : Int))), (fun v' _ => v' = (.int .i64 ((k : Int) + 1))), (fun v' _ => v' = (.int .i64 (((k : Int) + 1) * 42))), (fun v' _ => v' = (.string Bd)), (fun v' _ => v' = (.int .i64 (bs : Int))), (fun v' _ => v' = (.int .i64 (M : Int))), (fun v' _ => v' = (.string PT)), (fun v' _ => v' = (.string (LB ++ PT))), (fun v' _ => v' = (.tuple #[.string ST, .int .i64 0])), (fun v' _ => v' = (.tuple #[.string ST, .int .i64 0])), (fun v' _ => v' = (.string ST)), (fun v' _ => v' = (.int .i64 0)), (fun v' _ => v' = (.string ST)), (fun v' _ => v' = (.int .i64 0))] : List (Value → World → Prop)).getD i' (fun _ _ => True) v' w') (by kernel_rfl) (by kernel_rfl) (stab_list (by
          repeat (first | exact allStab_nil | refine allStab_cons (stab_eq _) ?_ | refine allStab_cons (stab_slice _ _) ?_))) ?_ ?_
      · refine steps_cons rfl ?_ ?_
        · intro a w hR K hK
          have e1 : a.tmps.getD 1 undef = (.pointer (some ⟨x0, 0, none⟩)) := hR.old 1 (by kernel_rfl) rfl
          rw [if_pos (wanted_none rfl)]
          have hc0 := (hR.bel.cell (p := ⟨x0, 0, none⟩) HXL.out).trans S0.out
          have hc1 := (hR.bel.cell (p := ⟨x0, 1, none⟩) HXL.out).trans S1.out
          have hc2 := (hR.bel.cell (p := ⟨x0, 2, none⟩) HXL.out).trans S2.out
          clear hR
          go_simp
          exact hK _ _ (belowSame _) rfl
        refine steps_cons rfl ?_ ?_
        · intro a w hR K hK
          have e7 : a.tmps.getD 7 undef = (.int .i64 (k : Int)) := hR.old 7 (by kernel_rfl) rfl
          rw [if_pos (wanted_none rfl)]
          have hB := hR.bel
          clear hR
          go_simp
          exact hK _ _ (belowSame _) rfl
        refine steps_cons rfl ?_ ?_
        · intro a w hR K hK
          have e1 : a.tmps.getD 1 undef = (.pointer (some ⟨x0, 0, none⟩)) := hR.old 1 (by kernel_rfl) rfl
          rw [if_pos (wanted_none rfl)]
          have hB := hR.bel
          clear hR
          go_simp
          exact hK _ _ (belowSame _) rfl
        refine steps_cons rfl ?_ ?_
        · intro a w hR K hK
          obtain ⟨v28, e28, _, q28⟩ := hR.val 2 28 (by kernel_rfl) (by kernel_rfl)
          obtain rfl : v28 = (.pointer (some ⟨x0, 2, none⟩)) := q28
          rw [if_pos (wanted_none rfl)]
          have hc2 := (hR.bel.cell (p := ⟨x0, 2, none⟩) HXL.out).trans S2.out
          clear hR
          go_simp
          exact hK _ _ (belowSame _) rfl
        refine steps_cons rfl ?_ ?_
        · intro a w hR K hK
          obtain ⟨v29, e29, _, q29⟩ := hR.val 3 29 (by kernel_rfl) (by kernel_rfl)
          obtain rfl : v29 = (.slice A n c) := q29
          rw [if_pos (wanted_none rfl)]
          have hB := hR.bel
          clear hR
          go_simp
          exact hK _ _ (belowSame _) rfl
        refine steps_cons rfl ?_ ?_
        · intro a w hR K hK
          obtain ⟨v26, e26, _, q26⟩ := hR.val 0 26 (by kernel_rfl) (by kernel_rfl)
          obtain rfl : v26 = (.agg #[.int .u64 e, .int .u64 l, .slice A n c]) := q26
          obtain ⟨v27, e27, _, q27⟩ := hR.val 1 27 (by kernel_rfl) (by kernel_rfl)
          obtain rfl : v27 = (.int .i64 (k : Int)) := q27
          obtain ⟨v30, e30, _, q30⟩ := hR.val 4 30 (by kernel_rfl) (by kernel_rfl)
          obtain rfl : v30 = (.int .i64 (n : Int)) := q30
          rw [if_pos (wanted_none rfl)]
          have hB := hR.bel
          clear hR
          go_simp
          refine (KLB.out _).mono ?_
          rintro e w' ⟨rfl, hw⟩
          exact hK _ _ (by first | exact belowOfEq hw | exact hw) rfl
        refine steps_cons rfl ?_ ?_
        · intro a w hR K hK
          have e5 : a.tmps.getD 5 undef = (.string Bd) := hR.old 5 (by kernel_rfl) rfl
          rw [if_pos (wanted_none rfl)]
          have hB := hR.bel
          clear hR
          go_simp
          exact hK _ _ (belowSame _) rfl
        refine steps_cons rfl ?_ ?_
        · intro a w hR K hK
          have e7 : a.tmps.getD 7 undef = (.int .i64 (k : Int)) := hR.old 7 (by kernel_rfl) rfl
          rw [if_pos (wanted_none rfl)]
          have hB := hR.bel
          clear hR
          go_simp
          exact hK _ _ (belowSame _) rfl
        refine steps_cons rfl ?_ ?_
        · intro a w hR K hK
          obtain ⟨v33, e33, _, q33⟩ := hR.val 7 33 (by kernel_rfl) (by kernel_rfl)
          obtain rfl : v33 = (.int .i64 (k : Int)) := q33
          rw [if_pos (wanted_none rfl)]
          have hB := hR.bel
          clear hR
          go_simp
          exact hK _ _ (belowSame _) rfl
        refine steps_cons rfl ?_ ?_
        · intro a w hR K hK
          have e7 : a.tmps.getD 7 undef = (.int .i64 (k : Int)) := hR.old 7 (by kernel_rfl) rfl
          rw [if_pos (wanted_none rfl)]
          have hB := hR.bel
          clear hR
          go_simp
          exact hK _ _ (belowSame _) rfl
        refine steps_cons rfl ?_ ?_
        · intro a w hR K hK
          obtain ⟨v35, e35, _, q35⟩ := hR.val 9 35 (by kernel_rfl) (by kernel_rfl)
          obtain rfl : v35 = (.int .i64 (k : Int)) := q35
          rw [if_pos (wanted_none rfl)]
          have hB := hR.bel
          clear hR
          go_simp
          exact hK _ _ (belowSame _) rfl
        refine steps_cons rfl ?_ ?_
        · intro a w hR K hK
          obtain ⟨v36, e36, _, q36⟩ := hR.val 10 36 (by kernel_rfl) (by kernel_rfl)
          obtain rfl : v36 = (.int .i64 ((k : Int) + 1)) := q36
          rw [if_pos (wanted_none rfl)]
          have hB := hR.bel
          clear hR
          go_simp
          exact hK _ _ (belowSame _) rfl
        refine steps_cons rfl ?_ ?_
        · intro a w hR K hK
          have e5 : a.tmps.getD 5 undef = (.string Bd) := hR.old 5 (by kernel_rfl) rfl
          rw [if_pos (wanted_none rfl)]
          have hB := hR.bel
          clear hR
          go_simp
          exact hK _ _ (belowSame _) rfl
        refine steps_cons rfl ?_ ?_
        · intro a w hR K hK
          obtain ⟨v38, e38, _, q38⟩ := hR.val 12 38 (by kernel_rfl) (by kernel_rfl)
          obtain rfl : v38 = (.string Bd) := q38
          rw [if_pos (wanted_none rfl)]
          have hB := hR.bel
          clear hR
          go_simp
          exact hK _ _ (belowSame _) rfl
        refine steps_cons rfl ?_ ?_
        · intro a w hR K hK
          obtain ⟨v37, e37, _, q37⟩ := hR.val 11 37 (by kernel_rfl) (by kernel_rfl)
          obtain rfl : v37 = (.int .i64 (((k : Int) + 1) * 42)) := q37
          obtain ⟨v39, e39, _, q39⟩ := hR.val 13 39 (by kernel_rfl) (by kernel_rfl)
          obtain rfl : v39 = (.int .i64 (bs : Int)) := q39
          rw [if_pos (wanted_none rfl)]
          have hB := hR.bel
          clear hR
          go_simp
          exact hK _ _ (belowSame _) rfl
        refine steps_cons rfl ?_ ?_
        · intro a w hR K hK
          obtain ⟨v32, e32, _, q32⟩ := hR.val 6 32 (by kernel_rfl) (by kernel_rfl)
          obtain rfl : v32 = (.string Bd) := q32
          obtain ⟨v34, e34, _, q34⟩ := hR.val 8 34 (by kernel_rfl) (by kernel_rfl)
          obtain rfl : v34 = (.int .i64 ((k : Int) * 42)) := q34
          obtain ⟨v40, e40, _, q40⟩ := hR.val 14 40 (by kernel_rfl) (by kernel_rfl)
          obtain rfl : v40 = (.int .i64 (M : Int)) := q40
          rw [if_pos (wanted_none rfl)]
          have hB := hR.bel
          clear hR
          go_simp
          exact hK _ _ (belowSame _) rfl
        refine steps_cons rfl ?_ ?_
        · intro a w hR K hK
          obtain ⟨v31, e31, _, q31⟩ := hR.val 5 31 (by kernel_rfl) (by kernel_rfl)
          obtain rfl : v31 = (.string LB) := q31
          obtain ⟨v41, e41, _, q41⟩ := hR.val 15 41 (by kernel_rfl) (by kernel_rfl)
          obtain rfl : v41 = (.string PT) := q41
          rw [if_pos (wanted_none rfl)]
          have hB := hR.bel
          clear hR
          go_simp
          exact hK _ _ (belowSame _) rfl
        refine steps_cons rfl ?_ ?_
        · intro a w hR K hK
          obtain ⟨v42, e42, _, q42⟩ := hR.val 16 42 (by kernel_rfl) (by kernel_rfl)
          obtain rfl : v42 = (.string (LB ++ PT)) := q42
          rw [if_pos (wanted_none rfl)]
          have hB := hR.bel
          clear hR
          go_simp
          refine (KST.out _).mono ?_
          rintro e w' ⟨rfl, hw⟩
          exact hK _ _ (by first | exact belowOfEq hw | exact hw) rfl
        refine steps_cons rfl ?_ ?_
        · intro a w hR K hK
          obtain ⟨v43, e43, _, q43⟩ := hR.val 17 43 (by kernel_rfl) (by kernel_rfl)
          obtain rfl : v43 = (.tuple #[.string ST, .int .i64 0]) := q43
          rw [if_pos (wanted_none rfl)]
          have hB := hR.bel
          clear hR
          go_simp
          exact hK _ _ (belowSame _) rfl
        refine steps_cons rfl ?_ ?_
        · intro a w hR K hK
          obtain ⟨v25, e25, _, q25⟩ := hR.val 18 25 (by kernel_rfl) (by kernel_rfl)
          obtain rfl : v25 = (.tuple #[.string ST, .int .i64 0]) := q25
          rw [if_pos (wanted_none rfl)]
          have hB := hR.bel
          clear hR
          go_simp
          exact hK _ _ (belowSame _) rfl
        refine steps_cons rfl ?_ ?_
        · intro a w hR K hK
          obtain ⟨v25, e25, _, q25⟩ := hR.val 18 25 (by kernel_rfl) (by kernel_rfl)
          obtain rfl : v25 = (.tuple #[.string ST, .int .i64 0]) := q25
          rw [if_pos (wanted_none rfl)]
          have hB := hR.bel
          clear hR
          go_simp
          exact hK _ _ (belowSame _) rfl
        refine steps_cons rfl ?_ ?_
        · intro a w hR K hK
          obtain ⟨v44, e44, _, q44⟩ := hR.val 19 44 (by kernel_rfl) (by kernel_rfl)
          obtain rfl : v44 = (.string ST) := q44
          rw [if_pos (wanted_none rfl)]
          have hB := hR.bel
          clear hR
          go_simp
          exact hK _ _ (belowSame _) rfl
        refine steps_cons rfl ?_ ?_
        · intro a w hR K hK
          obtain ⟨v45, e45, _, q45⟩ := hR.val 20 45 (by kernel_rfl) (by kernel_rfl)
          obtain rfl : v45 = (.int .i64 0) := q45
          rw [if_pos (wanted_none rfl)]
          have hB := hR.bel
          clear hR
          go_simp
          exact hK _ _ (belowSame _) rfl
        exact steps_nil
      · intro a' w' hF
        obtain ⟨v8, e8, _, q8⟩ := hF.val 21 8 (by decide) (by kernel_rfl)
        obtain rfl : v8 = (.string ST) := q8
        obtain ⟨v9, e9, _, q9⟩ := hF.val 22 9 (by decide) (by kernel_rfl)
        obtain rfl : v9 = (.int .i64 0) := q9
        have hB := belowUndrew hF.bel
        have hf := hF.frame
        rw [show dsts _ = [26, 27, 28, 29, 30, 31, 32, 33, 34, 35, 36, 37, 38, 39, 40, 41, 42, 43, 25, 44, 45, 8, 9] from by kernel_rfl] at hf
        obtain ⟨z26, h26⟩ : ∃ z, a'.tmps.getD 26 undef = z := ⟨_, rfl⟩
        obtain ⟨z27, h27⟩ : ∃ z, a'.tmps.getD 27 undef = z := ⟨_, rfl⟩
        obtain ⟨z28, h28⟩ : ∃ z, a'.tmps.getD 28 undef = z := ⟨_, rfl⟩
        obtain ⟨z29, h29⟩ : ∃ z, a'.tmps.getD 29 undef = z := ⟨_, rfl⟩
        obtain ⟨z30, h30⟩ : ∃ z, a'.tmps.getD 30 undef = z := ⟨_, rfl⟩
        obtain ⟨z31, h31⟩ : ∃ z, a'.tmps.getD 31 undef = z := ⟨_, rfl⟩
        obtain ⟨z32, h32⟩ : ∃ z, a'.tmps.getD 32 undef = z := ⟨_, rfl⟩
        obtain ⟨z33, h33⟩ : ∃ z, a'.tmps.getD 33 undef = z := ⟨_, rfl⟩
        obtain ⟨z34, h34⟩ : ∃ z, a'.tmps.getD 34 undef = z := ⟨_, rfl⟩
        obtain ⟨z35, h35⟩ : ∃ z, a'.tmps.getD 35 undef = z := ⟨_, rfl⟩
        obtain ⟨z36, h36⟩ : ∃ z, a'.tmps.getD 36 undef = z := ⟨_, rfl⟩
        obtain ⟨z37, h37⟩ : ∃ z, a'.tmps.getD 37 undef = z := ⟨_, rfl⟩
        obtain ⟨z38, h38⟩ : ∃ z, a'.tmps.getD 38 undef = z := ⟨_, rfl⟩
        obtain ⟨z39, h39⟩ : ∃ z, a'.tmps.getD 39 undef = z := ⟨_, rfl⟩
        obtain ⟨z40, h40⟩ : ∃ z, a'.tmps.getD 40 undef = z := ⟨_, rfl⟩
        obtain ⟨z41, h41⟩ : ∃ z, a'.tmps.getD 41 undef = z := ⟨_, rfl⟩
        obtain ⟨z42, h42⟩ : ∃ z, a'.tmps.getD 42 undef = z := ⟨_, rfl⟩
        obtain ⟨z43, h43⟩ : ∃ z, a'.tmps.getD 43 undef = z := ⟨_, rfl⟩
        obtain ⟨z25, h25⟩ : ∃ z, a'.tmps.getD 25 undef = z := ⟨_, rfl⟩
        obtain ⟨z44, h44⟩ : ∃ z, a'.tmps.getD 44 undef = z := ⟨_, rfl⟩
        obtain ⟨z45, h45⟩ : ∃ z, a'.tmps.getD 45 undef = z := ⟨_, rfl⟩
        simp only [List.foldl_cons, List.foldl_nil, h26, h27, h28, h29, h30, h31, h32, h33, h34, h35, h36, h37, h38, h39, h40, h41, h42, h43, h25, h44, h45, e8, e9] at hf
        simp only [List.setIfInBounds_toArray, List.set_cons_zero, List.set_cons_succ] at hf
        clear hF e8 e9 h26 h27 h28 h29 h30 h31 h32 h33 h34 h35 h36 h37 h38 h39 h40 h41 h42 h43 h25 h44 h45
        subst hf
        have HB3 := Lib.hid (HB.out.trans (hB.mono HB.out.size))
        clear hB
        go_wp2_with fail
        go_roundw
        case rel => exact ⟨k + 1, by go_num, by rw [HPK.out], by omega, HB3⟩
        case measure => simp [intOf]; omega
    · have hkm : k = m := by omega
      have hB1 := HB0.out
      obtain ⟨T, hT⟩ : ∃ T, putK e l n Bd k = T := ⟨_, rfl⟩
      rw [hT]
      have HT := Lib.hid (hkm ▸ hT)
      clear hT hkm hB1 KLA
      go_wp2_with fail
      go_ret2
      exact ⟨by rw [HT.out]; rfl, HB0.out.trans (HB.out.mono HB0.out.size)⟩
end Go.Proofs.YtakilnpfhljgfaaGreat.RC

/- rec: first. No condition. -/
namespace Go.Proofs.YtakilnpfhljgfaaGreat.RC
set_option maxRecDepth 100000
open Go.RowKit Go.Proofs.YtakilnpfhljgfaaGreat.WI Go.Proofs.YtakilnpfhljgfaaGreat.SM
set_option linter.unusedVariables false
set_option linter.unusedSimpArgs false

def U8 (l : List Int) : List UInt8 := l.map fun x => UInt8.ofNat x.toNat
theorem rd_step {X : ByteArray} {v : Int} {k : Nat} {R : List UInt8} (h : X.data.toList = U8 (lowB v k) ++ R) (h0 : 0 ≤ v) (h1 : v < ((256 ^ k : Nat) : Int)) :
    leL (X.extract 0 k).data.toList = v ∧ (X.extract k X.size).data.toList = R ∧ k ≤ X.size := by
  have hl : (U8 (lowB v k)).length = k := by unfold U8; rw [List.length_map, lowB_len]
  have hsz : X.size = k + R.length := by
    show X.data.size = _
    rw [← Array.length_toList, h, List.length_append, hl]
  refine ⟨?_, ?_, by omega⟩
  · rw [ByteArray.data_extract, Array.toList_extract, List.extract_eq_take_drop, h, Nat.sub_zero, List.drop_zero, List.take_left' hl]
    exact le_low v k h0 h1
  · rw [ByteArray.data_extract, Array.toList_extract, List.extract_eq_take_drop, h, List.drop_left' hl, hsz, show k + R.length - k = R.length by omega, List.take_length]
theorem strOf_data (l : List Int) : (strOfNums l).data.toList = U8 l := rfl
theorem U8_app (a b : List Int) : U8 (a ++ b) = U8 a ++ U8 b := List.map_append
theorem app_dat (a b : ByteArray) : (a ++ b).data.toList = a.data.toList ++ b.data.toList := by simp
/-- What a sector's stamp is taken off, it has ahead of it. -/
theorem stamp_front (s : ByteArray) (n m : Nat) (hn : n = m + 4) (h : s.size ≤ m) : (stampT s n).extract 0 m = padT s n := by
  have hp : (padT s n).size = m := by
    unfold padT
    rw [ByteArray.size_append, zerosT_size]; omega
  apply ByteArray.ext
  apply Array.ext'
  unfold stampT
  rw [ByteArray.data_extract, Array.toList_extract, List.extract_eq_take_drop, app_dat, Nat.sub_zero, List.drop_zero, List.take_left' (by rw [Array.length_toList]; exact hp)]
theorem fitsR_stamp (s : ByteArray) (n m : Nat) (hn : n = m + 4) (h : s.size ≤ m) : fitsR (stampT s n) = true := by
  have hp : (padT s n).size = m := by
    unfold padT
    rw [ByteArray.size_append, zerosT_size]; omega
  have hz := stampT_size s n (by omega) (by omega)
  unfold fitsR backT frontT
  rw [hz, show n - 4 = m by omega, stamp_front s n m hn h]
  have hb : (stampT s n).extract m n = fourT (sumT (padT s n)) := by
    apply ByteArray.ext
    apply Array.ext'
    unfold stampT
    rw [ByteArray.data_extract, Array.toList_extract, List.extract_eq_take_drop, app_dat, List.drop_left' (by rw [Array.length_toList]; exact hp)]
    refine List.take_of_length_le ?_
    rw [Array.length_toList]
    show (fourT _).size ≤ _
    rw [fourT_size]; omega
  rw [hb]
  simp
end Go.Proofs.YtakilnpfhljgfaaGreat.RC

/- rec: images. No condition. -/
namespace Go.Proofs.YtakilnpfhljgfaaGreat.RC
set_option maxRecDepth 100000
open Go.RowKit Go.Proofs.YtakilnpfhljgfaaGreat.WI Go.Proofs.YtakilnpfhljgfaaGreat.SM
set_option linter.unusedVariables false
set_option linter.unusedSimpArgs false

theorem infIm : (Tryz.prog.info? TIm).map (fun i => (i.zero, i.size, i.bytes)) = some (some (iagg im0), 3, 32) := by kernel_rfl
theorem recT_data (x : Im) : (recT x).data.toList = U8 (lowB x.b 4) ++ (U8 (lowB x.v 8) ++ x.d.data.toList) := by
  unfold recT numsT
  rw [app_dat, strOf_data, List.nil_append, U8_app, List.append_assoc]
theorem row_more6 {w wr w5 w6 : World} {a : Option Addr} {k c : Nat} {xs : List Value} {o : Obj} (h : wr.ownsRow w.heap.size TIm 3 (.slice a k c) k xs) (hb : Below w.heap.size w wr) (h5 : Below wr.heap.size wr w5) (hg : (w5.alloc o).grownBy w6 (Value.slice a 0 0).ownBlock) : Below w.heap.size w w6 := by
  have hA : Below w.heap.size w (w5.alloc o) := (hb.trans (h5.mono hb.size)).alloc (by have h1 := hb.size; have h2 := h5.size; omega) _
  refine hA.trans ⟨hg.os, hg.tape, hg.output, hg.size, fun j hj => hg.block j (by have := hA.size; omega) (fun e => ?_)⟩
  have := (h.lt j ((own_blk_ _ _ _).trans e.symm)).1
  omega
def ImagesOut (n : Nat) (xs : List Im) (w : World) (e : Ending) (w' : World) : Prop := ∃ A c, e = .returned (.slice A n c) ∧ w'.ownsRow w.heap.size TIm 3 (.slice A n c) n (xs.flatMap ival) ∧ Below w.heap.size w w'
end Go.Proofs.YtakilnpfhljgfaaGreat.RC

/- rec: what Get takes together; plain laws. No condition. -/
namespace Go.Proofs.YtakilnpfhljgfaaGreat.RC
set_option maxRecDepth 100000
open Go.RowKit Go.Proofs.YtakilnpfhljgfaaGreat.WI Go.Proofs.YtakilnpfhljgfaaGreat.SM
set_option linter.unusedVariables false
set_option linter.unusedSimpArgs false

/-- What stands in sector k ahead of its stamp, behind its label. -/
def frontK (e l : Int) (n : Nat) (B : ByteArray) (k : Nat) : ByteArray := padT (labelT e l (k : Int) (n : Int) ++ partT B k) 64
def contK (e l : Int) (n : Nat) (B : ByteArray) (k : Nat) : ByteArray := (frontK e l n B k).extract 18 60
def allK (e l : Int) (n : Nat) (B : ByteArray) : Nat → ByteArray
  | 0 => ⟨#[]⟩
  | k + 1 => allK e l n B k ++ contK e l n B k
section
variable {e l : Int} {n : Nat} {B : ByteArray}
theorem lab_part (k : Nat) : (labelT e l (k : Int) (n : Int) ++ partT B k).size ≤ 60 := by
  rw [ByteArray.size_append, labelT_size]
  have := partT_size B k
  omega
theorem secT_front (k : Nat) : (secT e l n B k).extract 0 60 = frontK e l n B k := stamp_front _ 64 60 (by omega) (lab_part k)
theorem secT_fits (k : Nat) : fitsR (secT e l n B k) = true := fitsR_stamp _ 64 60 (by omega) (lab_part k)
theorem zerosT_data (k : Nat) : (zerosT k).data.toList = List.replicate k 0 := by
  show (Lib.repeatL [0] k : List UInt8) = _
  induction k with
  | zero => rfl
  | succ k ih => show ([0] : List UInt8) ++ Lib.repeatL [0] k = _; rw [ih]; rfl
theorem frontK_data (k : Nat) : (frontK e l n B k).data.toList = (labelT e l (k : Int) (n : Int)).data.toList ++ ((partT B k).data.toList ++ List.replicate (60 - (18 + (partT B k).size)) 0) := by
  unfold frontK padT
  rw [app_dat, app_dat, zerosT_data, ByteArray.size_append, labelT_size, List.append_assoc]
theorem lab_len (k : Nat) : (labelT e l (k : Int) (n : Int)).data.toList.length = 18 := by
  rw [Array.length_toList]; exact labelT_size _ _ _ _
theorem frontK_size (k : Nat) : (frontK e l n B k).size = 60 := by
  unfold frontK padT
  have := lab_part (e := e) (l := l) (n := n) (B := B) k
  rw [ByteArray.size_append, zerosT_size]
  omega
theorem frontK_lab (k : Nat) : (frontK e l n B k).extract 0 18 = labelT e l (k : Int) (n : Int) := by
  apply ByteArray.ext
  apply Array.ext'
  rw [ByteArray.data_extract, Array.toList_extract, List.extract_eq_take_drop, frontK_data, Nat.sub_zero, List.drop_zero, List.take_left' (lab_len k)]
theorem contK_data (k : Nat) : (contK e l n B k).data.toList = (partT B k).data.toList ++ List.replicate (42 - (partT B k).size) 0 := by
  unfold contK
  have hp := partT_size B k
  have hpl : (partT B k).data.toList.length = (partT B k).size := Array.length_toList
  rw [ByteArray.data_extract, Array.toList_extract, List.extract_eq_take_drop, frontK_data, List.drop_left' (lab_len k), List.take_of_length_le (by rw [List.length_append, List.length_replicate, hpl]; omega)]
  rw [show 60 - (18 + (partT B k).size) = 42 - (partT B k).size by omega]
theorem partT_data (k : Nat) : (partT B k).data.toList = (B.data.toList.drop (42 * k)).take 42 := by
  unfold partT
  rw [ByteArray.data_extract, Array.toList_extract, List.extract_eq_take_drop]
  have hl : B.data.toList.length = B.size := Array.length_toList
  by_cases h : 42 * (k + 1) ≤ B.size
  · congr 1; omega
  · rw [List.take_of_length_le (by rw [List.length_drop, hl]; omega), List.take_of_length_le (by rw [List.length_drop, hl]; omega)]
theorem allK_data (m : Nat) (hm : 42 * m < B.size + 42) : ∀ k, k ≤ m → (allK e l n B k).data.toList = (B.data.toList ++ List.replicate 42 0).take (42 * k) := by
  intro k
  induction k with
  | zero => intro _; rfl
  | succ k ih =>
    intro hk
    have hl : B.data.toList.length = B.size := Array.length_toList
    show (allK e l n B k ++ contK e l n B k).data.toList = _
    rw [app_dat, ih (by omega), contK_data, partT_data, show 42 * (k + 1) = 42 * k + 42 by omega, List.take_add, List.drop_append_of_le_length (by omega)]
    congr 1
    rw [List.take_append, List.length_drop, hl, List.take_replicate]
    congr 2
    unfold partT
    rw [ByteArray.size_extract]
    omega
theorem allK_size (k : Nat) : (allK e l n B k).size = 42 * k := by
  induction k with
  | zero => rfl
  | succ k ih =>
    show (allK e l n B k ++ contK e l n B k).size = _
    rw [ByteArray.size_append, ih]
    unfold contK
    rw [ByteArray.size_extract, frontK_size]
    omega
end
theorem bodyK_at {xs : List Im} (hg : Good xs) {n : Nat} (hn : n ≤ xs.length) : ∀ i, i < n → ((bodyK xs n).data.toList.drop (108 * i)).take 108 = (recT (xs.getD i im0)).data.toList := by
  induction n with
  | zero => intro i hi; omega
  | succ n ih =>
    intro i hi
    have hl : (bodyK xs n).data.toList.length = 108 * n := by rw [Array.length_toList]; exact bodyK_size hg (by omega)
    have hr : (recT (xs.getD i im0)).data.toList.length = 108 := by
      rw [Array.length_toList]
      show (recT _).size = 108
      unfold recT
      rw [ByteArray.size_append, numsT_size, (hg.at_ (show i < xs.length by omega)).2.2.1]
    show ((bodyK xs n ++ recT (xs.getD n im0)).data.toList.drop (108 * i)).take 108 = _
    rw [app_dat]
    by_cases e : i = n
    · subst e
      rw [List.drop_left' hl, List.take_of_length_le (by omega)]
    · rw [List.drop_append_of_le_length (by omega), List.take_append_of_le_length (by rw [List.length_drop]; omega), ih (by omega) i (by omega)]
/-- Behind the last sector each image stands at its place. -/
theorem all_at {e l : Int} {xs : List Im} (hg : Good xs) (m : Nat) (hm : 42 * m < 108 * xs.length + 42) (hm2 : 108 * xs.length ≤ 42 * m) (i : Nat) (hi : i < xs.length) :
    (allK e l xs.length (bodyK xs xs.length) m).extract (108 * i) (108 * (i + 1)) = recT (xs.getD i im0) := by
  have hbs := bodyK_size hg (k := xs.length) (Nat.le_refl _)
  have hl : (bodyK xs xs.length).data.toList.length = 108 * xs.length := by rw [Array.length_toList]; exact hbs
  apply ByteArray.ext
  apply Array.ext'
  rw [ByteArray.data_extract, Array.toList_extract, List.extract_eq_take_drop, allK_data m (by omega) m (Nat.le_refl _), show 108 * (i + 1) - 108 * i = 108 by omega, List.drop_take, List.take_take, show min 108 (42 * m - 108 * i) = 108 by omega, List.drop_append_of_le_length (by omega), List.take_append_of_le_length (by rw [List.length_drop]; omega), bodyK_at hg (Nat.le_refl _) i hi]
/-- The sectors of a record's bytes. -/
theorem putK_at (e l : Int) (n : Nat) (B : ByteArray) (m : Nat) : ∀ k, k < m → ((putK e l n B m).data.toList.drop (64 * k)).take 64 = (secT e l n B k).data.toList := by
  induction m with
  | zero => intro k hk; omega
  | succ m ih =>
    intro k hk
    have hl : (putK e l n B m).data.toList.length = 64 * m := by rw [Array.length_toList]; exact putK_size _ _ _ _ _
    have hr : (secT e l n B k).data.toList.length = 64 := by rw [Array.length_toList]; exact secT_size _ _ _ _ _
    show ((putK e l n B m ++ secT e l n B m).data.toList.drop (64 * k)).take 64 = _
    rw [app_dat]
    by_cases h : k = m
    · subst h; rw [List.drop_left' hl, List.take_of_length_le (by omega)]
    · rw [List.drop_append_of_le_length (by omega), List.take_append_of_le_length (by rw [List.length_drop]; omega), ih k (by omega)]
theorem ext_ext (b : ByteArray) (m k : Nat) (hk : k < m) (P : ByteArray) (h : b.extract 0 (64 * m) = P) : (b.extract (64 * k) (64 * (k + 1))).data.toList = (P.data.toList.drop (64 * k)).take 64 := by
  rw [← h]
  rw [ByteArray.data_extract, ByteArray.data_extract, Array.toList_extract, Array.toList_extract, List.extract_eq_take_drop, List.extract_eq_take_drop, Nat.sub_zero, List.drop_zero, List.drop_take, List.take_take, show 64 * (k + 1) - 64 * k = 64 by omega, show min 64 (64 * m - 64 * k) = 64 by omega]
theorem sector_at (b : ByteArray) (e l : Int) (n : Nat) (B : ByteArray) (m k : Nat) (hk : k < m) (h : b.extract 0 (64 * m) = putK e l n B m) : b.extract (64 * k) (64 * (k + 1)) = secT e l n B k := by
  apply ByteArray.ext
  apply Array.ext'
  rw [ext_ext b m k hk _ h, putK_at _ _ _ _ _ _ hk]
theorem frontK_first (e l : Int) (n : Nat) (B : ByteArray) : ∃ R, (frontK e l n B 0).data.toList = U8 (lowB e 8) ++ (U8 (lowB l 8) ++ (U8 (lowB 0 1) ++ (U8 (lowB n 1) ++ R))) := by
  refine ⟨(partT B 0).data.toList ++ List.replicate (60 - (18 + (partT B 0).size)) 0, ?_⟩
  rw [frontK_data]
  unfold labelT
  rw [strOf_data, List.nil_append, U8_app, U8_app, U8_app]
  simp only [List.append_assoc]
  rfl
end Go.Proofs.YtakilnpfhljgfaaGreat.RC

/- rec: Get of a record that was put, whatever stands behind it. No condition. -/
namespace Go.Proofs.YtakilnpfhljgfaaGreat.RC
set_option maxRecDepth 100000
open Go.RowKit Go.Proofs.YtakilnpfhljgfaaGreat.WI Go.Proofs.YtakilnpfhljgfaaGreat.SM
set_option linter.unusedVariables false
set_option linter.unusedSimpArgs false

theorem flat_at (xs : List Im) (i : Nat) (x : Im) (hx : xs[i]? = some x) (j : Nat) (hj : j < 3) : (xs.flatMap ival)[i * 3 + j]? = (ival x)[j]? := by
  induction xs generalizing i with
  | nil => simp at hx
  | cons y ys ih =>
    have hl : (ival y).length = 3 := rfl
    rw [List.flatMap_cons]
    cases i with
    | zero =>
      simp at hx
      subst hx
      rw [List.getElem?_append_left (by rw [hl]; omega), Nat.zero_mul, Nat.zero_add]
    | succ i =>
      rw [List.getElem?_append_right (by rw [hl]; omega), hl, show (i + 1) * 3 + j - 3 = i * 3 + j by omega]
      exact ih i (by simpa using hx)
theorem ims_own {w : World} {B : Nat} {A : Option Addr} {n c : Nat} {xs : List Im} (h : w.ownsRow B TIm 3 (.slice A n c) n (xs.flatMap ival)) (hn : xs.length = n) (hok : ∀ x ∈ xs, ImOk x) : Ims w A n c xs := by
  rcases h.2 with ⟨h0, h1⟩ | ⟨g', cap', cur, h0, hB, hh, h1, h2, _⟩
  · injection h0 with e1 e2 e3
    exact ⟨by omega, by rw [e3]; unfold maxLen; omega, hn, hok, fun h => by omega⟩
  · have h0' := h0
    injection h0 with e1 e2 e3
    subst e1 e3
    refine ⟨h1, h2, hn, hok, fun _ => ⟨g', 0, rfl, (Array.getElem?_eq_some_iff.1 hh).1, fun i x hx j u hu => ?_⟩⟩
    have hj : j < 3 := by
      rcases Nat.lt_or_ge j 3 with h | h
      · exact h
      · rw [List.getElem?_eq_none (by show 3 ≤ j; exact h)] at hu; cases hu
    have := h.cells (g := g') rfl (i * 3 + j) u (by rw [flat_at xs i x hx j hj]; exact hu)
    rw [Go.WideShapes.add_plain] at this
    exact this
theorem secs_facts {n : Nat} (h1 : 1 ≤ n) (h2 : n ≤ 60) : 3 ≤ secsN n ∧ secsN n ≤ 155 ∧ 42 * secsN n < 108 * n + 42 ∧ 108 * n ≤ 42 * secsN n := by unfold secsN; omega
def GetOut (e l : Int) (n m : Nat) (xs : List Im) (w : World) (x : Ending) (w' : World) : Prop :=
  ∃ A c, x = .returned (.tuple #[.agg #[.int .u64 e, .int .u64 l, .slice A n c], .int .i64 (m : Int), .int .i64 0]) ∧ Ims w' A n c xs ∧ Below w.heap.size w w'
end Go.Proofs.YtakilnpfhljgfaaGreat.RC

/- rec: Get of what is no record any more: a sector changed; cut short. No condition. -/
namespace Go.Proofs.YtakilnpfhljgfaaGreat.RC
set_option maxRecDepth 100000
open Go.RowKit Go.Proofs.YtakilnpfhljgfaaGreat.WI Go.Proofs.YtakilnpfhljgfaaGreat.SM
set_option linter.unusedVariables false
set_option linter.unusedSimpArgs false

end Go.Proofs.YtakilnpfhljgfaaGreat.RC

/- rec: heads read again; how many images a record has at most. No condition. -/
namespace Go.Proofs.YtakilnpfhljgfaaGreat.RC
set_option maxRecDepth 100000
open Go.RowKit Go.Proofs.YtakilnpfhljgfaaGreat.WI Go.Proofs.YtakilnpfhljgfaaGreat.SM
set_option linter.unusedVariables false
set_option linter.unusedSimpArgs false

theorem headT_size (e l a : Int) : (headT e l a).size = 64 := stampT_size _ _ (by omega) (by rw [headB_size]; omega)
theorem headT_fits (e l a : Int) : fitsR (headT e l a) = true := fitsR_stamp _ 64 60 rfl (by rw [headB_size]; omega)
theorem headT_front (e l a : Int) : (headT e l a).extract 0 60 = padT (headB e l a) 64 := stamp_front _ 64 60 rfl (by rw [headB_size]; omega)
theorem headB_data (e l a : Int) : (headB e l a).data.toList = [72, 69, 65, 68] ++ (U8 (lowB e 8) ++ (U8 (lowB l 8) ++ U8 (lowB a 4))) := by
  unfold headB
  rw [app_dat, strOf_data, U8_app, U8_app, List.nil_append, List.append_assoc]
theorem head_rest (e l a : Int) : ∃ R, (((headT e l a).extract 0 60).extract 4 60).data.toList = U8 (lowB e 8) ++ (U8 (lowB l 8) ++ (U8 (lowB a 4) ++ R)) := by
  refine ⟨(zerosT (64 - 4 - (headB e l a).size)).data.toList, ?_⟩
  rw [headT_front, SM.ext_data]
  unfold padT
  rw [app_dat, headB_data]
  have hz : (zerosT (64 - 4 - (headB e l a).size)).data.toList.length = 36 := by
    have h0 : (zerosT (64 - 4 - (headB e l a).size)).data.toList.length = (zerosT (64 - 4 - (headB e l a).size)).size := Array.length_toList
    rw [h0, zerosT_size, headB_size]
  have h1 : (U8 (lowB e 8)).length = 8 := by simp [U8, lowB_len]
  have h2 : (U8 (lowB l 8)).length = 8 := by simp [U8, lowB_len]
  have h3 : (U8 (lowB a 4)).length = 4 := by simp [U8, lowB_len]
  generalize (zerosT (64 - 4 - (headB e l a).size)).data.toList = Z at *
  have hd : ∀ Y : List UInt8, List.drop 4 ([72, 69, 65, 68] ++ Y) = Y := fun _ => rfl
  rw [List.append_assoc, hd, List.take_of_length_le (by simp [h1, h2, h3, hz])]
  simp [List.append_assoc]
/-- How many images a record of a log of so many places may have: what the code counts. -/
def mostUp (h : Int) : Nat → Nat → Nat
  | 0, n => n
  | f + 1, n => if n < 60 ∧ secsI ((n : Int) + 1) ≤ h then mostUp h f (n + 1) else n
def mostN (log : Int) : Nat := mostUp ((log - 1) / 2) 60 0
theorem mostUp_facts (h : Int) : ∀ (f n : Nat), 60 ≤ f + n → n ≤ 60 → (n = 0 ∨ secsI (n : Int) ≤ h) →
    n ≤ mostUp h f n ∧ mostUp h f n ≤ 60 ∧ (mostUp h f n = 0 ∨ secsI (mostUp h f n : Int) ≤ h) ∧ (mostUp h f n = 60 ∨ h < secsI ((mostUp h f n : Int) + 1)) := by
  intro f
  induction f with
  | zero => intro n hf hn h0; unfold mostUp; exact ⟨by omega, hn, h0, Or.inl (by omega)⟩
  | succ f ih =>
    intro n hf hn h0
    unfold mostUp
    split
    · rename_i hc
      obtain ⟨h1, h2, h3, h4⟩ := ih (n + 1) (by omega) (by omega) (Or.inr (by simpa using hc.2))
      exact ⟨by omega, h2, h3, h4⟩
    · rename_i hc
      refine ⟨by omega, hn, h0, ?_⟩
      rcases Nat.lt_or_ge n 60 with hlt | hge
      · exact Or.inr (by rw [not_and] at hc; have := hc hlt; omega)
      · exact Or.inl (by omega)
/-- At the number where the counting stops. -/
theorem most_stop (h : Int) (n : Nat) (hn : n ≤ 60) (h1 : ∀ k : Nat, k < n → secsI ((k : Int) + 1) ≤ h) (h2 : n = 60 ∨ h < secsI ((n : Int) + 1)) : ∀ (d k f : Nat), k + d = n → 60 ≤ f + k → mostUp h f k = n := by
  intro d
  induction d with
  | zero =>
    intro k f hk hf
    obtain rfl : k = n := by omega
    cases f with
    | zero => rfl
    | succ f => unfold mostUp; rw [if_neg (by rcases h2 with h2 | h2 <;> omega)]
  | succ d ih =>
    intro k f hk hf
    cases f with
    | zero => omega
    | succ f => unfold mostUp; rw [if_pos ⟨by omega, h1 k (by omega)⟩]; exact ih (k + 1) f (by omega) (by omega)
set_option maxHeartbeats 4000000 in
theorem most_any (log : Int) (hlog : 1 ≤ log ∧ log ≤ 100000) (w : World) : Calls Tryz.prog 41 #[.int .i64 log] w fun x w' => x = .returned (.int .i64 (mostN log : Int)) ∧ Below w.heap.size w w' := by
  have n1 : decide (log < 1) = false := by simp; omega
  have n2 : decide (100000 < log) = false := by simp; omega
  have w1 : IntKind.i64.wrap (log - 1) = log - 1 := IntWalk.i64_in _ (by omega)
  have w2 : (log - 1).tdiv 2 = (log - 1) / 2 := Int.tdiv_eq_ediv_of_nonneg (by omega)
  have w3 : IntKind.i64.wrap ((log - 1) / 2) = (log - 1) / 2 := IntWalk.i64_in _ (by omega)
  have HLOG := Lib.hid hlog
  clear hlog
  go_enter Tryz.func41, Tryz.ntmps41
  go_wp2_with fail
  go_loopw [3] (fun i wr => ∃ k : Nat, i = .int .i64 (k : Int) ∧ k ≤ 60 ∧ (∀ j : Nat, j < k → secsI ((j : Int) + 1) ≤ (log - 1) / 2) ∧ Hid (Below w.heap.size w wr)) (fun i _ => 60 - (intOf i).toNat)
  case atStart => exact ⟨0, rfl, by omega, fun j hj => by omega, Lib.hid (belowSame _)⟩
  case round =>
    obtain ⟨k, rfl, hk, hall, HB⟩ := hrel
    by_cases hlt : k < 60
    · have e1 : IntKind.i64.wrap ((k : Int) + 1) = (k : Int) + 1 := IntWalk.i64_in _ (by omega)
      have c1 : decide ((k : Int) < 60) = true := by simp; omega
      by_cases hs : secsI ((k : Int) + 1) ≤ (log - 1) / 2
      · have c2 : decide (secsI ((k : Int) + 1) ≤ (log - 1) / 2) = true := by simpa using hs
        go_wp2_with (go_at_call 42; refine (sectors_any _ _).mono ?_; rintro x w4 ⟨rfl, rfl⟩)
        go_roundw
        case rel => exact ⟨k + 1, by go_num, by omega, fun j hj => by rcases (by omega : j < k ∨ j = k) with h | rfl; exact hall j h; exact hs, HB⟩
        case measure => simp [intOf]; omega
      · have c2 : decide (secsI ((k : Int) + 1) ≤ (log - 1) / 2) = false := by simp; omega
        go_wp2_with (go_at_call 42; refine (sectors_any _ _).mono ?_; rintro x w4 ⟨rfl, rfl⟩)
        go_ret
        have hm : mostN log = k := most_stop _ k (by omega) hall (Or.inr (by omega)) k 0 60 (by omega) (by omega)
        exact ⟨by rw [hm]; rfl, HB.out⟩
    · obtain rfl : k = 60 := by omega
      go_wp2_with fail
      go_ret
      have hm : mostN log = 60 := most_stop _ 60 (by omega) hall (Or.inl rfl) 60 0 60 (by omega) (by omega)
      exact ⟨by rw [hm]; rfl, HB.out⟩
end Go.Proofs.YtakilnpfhljgfaaGreat.RC

/- wlog: none, may, size, the readers, head, Used, Fits, Pending, onto a log. No condition. -/
namespace Go.Proofs.YtakilnpfhljgfaaGreat.WL
set_option maxRecDepth 100000
open Go.RowKit Go.Proofs.YtakilnpfhljgfaaGreat.MI Go.Proofs.YtakilnpfhljgfaaGreat.WI Go.Proofs.YtakilnpfhljgfaaGreat.SM Go.Proofs.YtakilnpfhljgfaaGreat.DK Go.Proofs.YtakilnpfhljgfaaGreat.SU Go.Proofs.YtakilnpfhljgfaaGreat.BK
set_option linter.unusedVariables false
set_option linter.unusedSimpArgs false

section
variable {w0 W W' : World} {g d q N : Nat} {S : Lg} {bl : List (Nat × TypeId × Array Value)}
theorem none_any (h : LogAt w0 g d q N S bl W) : Calls Tryz.prog 45 #[.pointer (some ⟨g, 0, none⟩)] W fun e w' => e = .returned (.bool false) ∧ W = w' := by
  have c0 : W.cell? ⟨g, 0, none⟩ = some (.pointer (some ⟨d, 0, none⟩)) := h.blk.cell 0
  go_enter Tryz.func45, Tryz.ntmps45
  go_wp2
  go_ret
  exact ⟨rfl, rfl⟩
theorem may_any (h : LogAt w0 g d q N S bl W) : Calls Tryz.prog 39 #[.pointer (some ⟨g, 0, none⟩)] W fun e w' => e = .returned (.int .i64 0) ∧ W = w' := by
  have kn := none_any h
  have c15 : W.cell? ⟨g, 15, none⟩ = some (.bool false) := h.blk.cell 15
  go_enter Tryz.func39, Tryz.ntmps39
  go_wp2_with (go_at_call 45; refine kn.mono ?_; rintro e w1 ⟨rfl, rfl⟩)
  go_ret
  exact ⟨rfl, rfl⟩
theorem size_any (h : LogAt w0 g d q N S bl W) : Calls Tryz.prog 44 #[.pointer (some ⟨g, 0, none⟩)] W fun e w' => e = .returned (.int .i64 7) ∧ W = w' := by
  have c3 : W.cell? ⟨g, 3, none⟩ = some (.int .i64 8) := h.blk.cell 3
  go_enter Tryz.func44, Tryz.ntmps44
  go_wp2
  go_ret
  exact ⟨rfl, rfl⟩
theorem next_any (h : LogAt w0 g d q N S bl W) : Calls Tryz.prog 12 #[.pointer (some ⟨g, 0, none⟩)] W fun e w' => e = .returned (.int .u64 S.next) ∧ W = w' := by
  have kn := none_any h
  have c9 : W.cell? ⟨g, 9, none⟩ = some (.int .u64 S.next) := h.blk.cell 9
  obtain ⟨V, hV⟩ : ∃ V, S.next = V := ⟨_, rfl⟩
  rw [hV] at c9 ⊢
  clear hV
  go_enter Tryz.func12, Tryz.ntmps12
  go_wp2_with (go_at_call 45; refine kn.mono ?_; rintro e w1 ⟨rfl, rfl⟩)
  go_ret
  exact ⟨rfl, rfl⟩
theorem written_any (h : LogAt w0 g d q N S bl W) : Calls Tryz.prog 21 #[.pointer (some ⟨g, 0, none⟩)] W fun e w' => e = .returned (.int .u64 S.written) ∧ W = w' := by
  have kn := none_any h
  have c12 : W.cell? ⟨g, 12, none⟩ = some (.int .u64 S.written) := h.blk.cell 12
  obtain ⟨V, hV⟩ : ∃ V, S.written = V := ⟨_, rfl⟩
  rw [hV] at c12 ⊢
  clear hV
  go_enter Tryz.func21, Tryz.ntmps21
  go_wp2_with (go_at_call 45; refine kn.mono ?_; rintro e w1 ⟨rfl, rfl⟩)
  go_ret
  exact ⟨rfl, rfl⟩
theorem synced_any (h : LogAt w0 g d q N S bl W) : Calls Tryz.prog 22 #[.pointer (some ⟨g, 0, none⟩)] W fun e w' => e = .returned (.int .u64 S.synced) ∧ W = w' := by
  have kn := none_any h
  have c13 : W.cell? ⟨g, 13, none⟩ = some (.int .u64 S.synced) := h.blk.cell 13
  obtain ⟨V, hV⟩ : ∃ V, S.synced = V := ⟨_, rfl⟩
  rw [hV] at c13 ⊢
  clear hV
  go_enter Tryz.func22, Tryz.ntmps22
  go_wp2_with (go_at_call 45; refine kn.mono ?_; rintro e w1 ⟨rfl, rfl⟩)
  go_ret
  exact ⟨rfl, rfl⟩
theorem first_any (h : LogAt w0 g d q N S bl W) : Calls Tryz.prog 23 #[.pointer (some ⟨g, 0, none⟩)] W fun e w' => e = .returned (.int .u64 S.first) ∧ W = w' := by
  have kn := none_any h
  have c10 : W.cell? ⟨g, 10, none⟩ = some (.int .u64 S.first) := h.blk.cell 10
  obtain ⟨V, hV⟩ : ∃ V, S.first = V := ⟨_, rfl⟩
  rw [hV] at c10 ⊢
  clear hV
  go_enter Tryz.func23, Tryz.ntmps23
  go_wp2_with (go_at_call 45; refine kn.mono ?_; rintro e w1 ⟨rfl, rfl⟩)
  go_ret
  exact ⟨rfl, rfl⟩
theorem broken_any (h : LogAt w0 g d q N S bl W) : Calls Tryz.prog 15 #[.pointer (some ⟨g, 0, none⟩)] W fun e w' => e = .returned (.bool false) ∧ W = w' := by
  have kn := none_any h
  have c15 : W.cell? ⟨g, 15, none⟩ = some (.bool false) := h.blk.cell 15
  go_enter Tryz.func15, Tryz.ntmps15
  go_wp2_with (go_at_call 45; refine kn.mono ?_; rintro e w1 ⟨rfl, rfl⟩)
  go_ret
  exact ⟨rfl, rfl⟩
set_option maxHeartbeats 4000000 in
theorem head_any (h : LogAt w0 g d q N S bl W) (l a : Int) (hl : 0 < l ∧ l ≤ 18446744073709551615) (ha : 0 ≤ a ∧ a ≤ 256) (hN : N ≤ 9000000) :
    Calls Tryz.prog 38 #[.pointer (some ⟨g, 0, none⟩), .int .u64 l, .int .i64 a] W fun e w' => e = .returned (.int .i64 0) ∧ LogAt w0 g d q (N + 16) S bl w' := by
  have kp := fun W => RC.put_head 9 l a (by decide) hl ha W
  have hs := RC.headT_size 9 l a
  generalize RC.headT 9 l a = T at *
  have kw := fun W (h : LogAt w0 g d q N S bl W) => lwrite h 1 T 1 hs (by decide) (by decide) (by omega)
  have kb := fun W (h : LogAt w0 g d q (N + 16) S bl W) => lbarrier h (by omega)
  have c7 : W.cell? ⟨g, 7, none⟩ = some (.int .u64 9) := h.blk.cell 7
  have HH := Lib.hid h
  clear h hs
  go_enter Tryz.func38, Tryz.ntmps38
  go_upto_region 4 with (go_at_call 74; refine (kp _).mono ?_; rintro x w1 ⟨rfl, hb1⟩; have h1 := HH.out.then_ hb1; clear c7; have c0 : w1.cell? ⟨g, 0, none⟩ = some (.pointer (some ⟨d, 0, none⟩)) := h1.blk.cell 0; have c6 : w1.cell? ⟨g, 6, none⟩ = some (.int .i64 1) := h1.blk.cell 6; have c7 : w1.cell? ⟨g, 7, none⟩ = some (.int .u64 9) := h1.blk.cell 7; have c8 : w1.cell? ⟨g, 8, none⟩ = some (.int .i64 1) := h1.blk.cell 8; have H1 := Lib.hid h1; clear hb1 h1 kp HH)
  go_still_tail 17, (by kernel_rfl)
  go_upto_region 7 with (go_at_call 75; refine (kw _ H1.out.drew).mono ?_; rintro x w2 ⟨rfl, ho2⟩; clear c0 c6 c7 c8; have c0 : w2.cell? ⟨g, 0, none⟩ = some (.pointer (some ⟨d, 0, none⟩)) := ho2.blk.cell 0; have c6 : w2.cell? ⟨g, 6, none⟩ = some (.int .i64 1) := ho2.blk.cell 6; have c7 : w2.cell? ⟨g, 7, none⟩ = some (.int .u64 9) := ho2.blk.cell 7; have H2 := Lib.hid ho2; clear ho2 kw)
  go_still_tail 12, (by kernel_rfl)
  go_wp2_with (go_at_call 48; refine (kb _ H2.out.drew).mono ?_; rintro x w3 ⟨rfl, ho3⟩; have H3 := Lib.hid ho3; clear ho3 kb)
  go_ret
  exact ⟨rfl, H3.out⟩
end
/-- An entry of a list of entries in memory. -/
theorem seg_at {w : World} {B n C : Nat} {A : Option Addr} {es : List RE.En} (h : Seg w B TEn 5 A n C (es.flatMap RE.val)) {k : Nat} (hk : k < n) : ∃ b off x, A = some ⟨b, off, none⟩ ∧ es[k]? = some x ∧ (k : Int) < (C : Int) ∧ b < w.heap.size ∧
    w.cell? ⟨b, off + k * 5, none⟩ = some (.int .u64 x.l) ∧ w.cell? ⟨b, off + k * 5 + 1, none⟩ = some (.int .i64 x.p) ∧ w.cell? ⟨b, off + k * 5 + 2, none⟩ = some (.int .i64 x.n) ∧ w.cell? ⟨b, off + k * 5 + 3, none⟩ = some (.string x.d) ∧ w.cell? ⟨b, off + k * 5 + 4, none⟩ = some (.bool x.b) := by
  have hlen : es.length = n := by have := h.1; rw [flat_len RE.val_len] at this; omega
  have hnC := h.2.1
  obtain ⟨b, off, rfl⟩ := h.form (by omega)
  have hlt : k < es.length := by omega
  have hl := h.lies
  obtain ⟨ad, e, hc⟩ := hl.2 (by omega)
  cases e
  have hcc : ∀ j u, j < 5 → (RE.val es[k])[j]? = some u → w.cell? ⟨b, off + k * 5 + j, none⟩ = some u := fun j u hj hu => by
    have := hc (k * 5 + j) u (by rw [flat_at RE.val_len es k j hlt hj, hu])
    rwa [addr_add, ← Nat.add_assoc] at this
  exact ⟨b, off, es[k], rfl, List.getElem?_eq_getElem hlt, by omega, h.lt b (by simp [segF, Value.ownBlock]), hcc 0 _ (by omega) rfl, hcc 1 _ (by omega) rfl, hcc 2 _ (by omega) rfl, hcc 3 _ (by omega) rfl, hcc 4 _ (by omega) rfl⟩
/-- How many are not written. -/
def pendN (es : List RE.En) : Nat := (es.filter fun x => !x.b).length
theorem pend_le (es : List RE.En) : pendN es ≤ es.length := List.length_filter_le _ _
theorem pend_take {es : List RE.En} {k : Nat} {x : RE.En} (hx : es[k]? = some x) : pendN (es.take (k + 1)) = pendN (es.take k) + (if x.b then 0 else 1) := by
  unfold pendN
  rw [List.take_add_one, hx, List.filter_append, List.length_append]
  cases hb : x.b <;> simp [hb]
section
variable {w0 W W' : World} {g d q N : Nat} {S : Lg} {bl : List (Nat × TypeId × Array Value)}
set_option maxHeartbeats 4000000 in
theorem used_any (h : LogAt w0 g d q N S bl W) (hn : ∀ x ∈ S.es, x.n = 3) (hm : S.es.length ≤ 100000) : Calls Tryz.prog 13 #[.pointer (some ⟨g, 0, none⟩)] W fun e w' => e = .returned (.int .i64 (3 * (S.es.length : Int))) ∧ Below W.heap.size W w' := by
  have kn := none_any h
  have kl := llist h
  have c14 : W.cell? ⟨g, 14, none⟩ = some (.pointer (some ⟨q, 0, none⟩)) := h.blk.cell 14
  obtain ⟨m, hmm⟩ : ∃ m, S.es.length = m := ⟨_, rfl⟩
  rw [hmm] at kl hm ⊢
  have HN := Lib.hid hn
  have HM := Lib.hid hmm
  clear hn hmm h
  go_enter Tryz.func13, Tryz.ntmps13
  go_wp2_with (first | (go_at_call 45; refine kn.mono ?_; rintro e w1 ⟨rfl, rfl⟩) | (go_at_call 46; refine kl.mono ?_; rintro e w1 ⟨A, C, rfl, h1, h2, hs, hb⟩; have HS := Lib.hid hs; have HB1 := Lib.hid hb; clear hs hb))
  go_loopw [3, 14] (fun s i wr => ∃ k : Nat, k ≤ m ∧ i = .int .i64 (k : Int) ∧ s = .int .i64 (3 * (k : Int)) ∧ Hid (Below w1.heap.size w1 wr)) (fun _ i _ => m - (intOf i).toNat)
  case atStart => exact ⟨0, by omega, rfl, rfl, Lib.hid (belowSame _)⟩
  case round =>
    obtain ⟨k, hk, rfl, rfl, HB⟩ := hrel
    by_cases hlt : k < m
    · obtain ⟨b, off, x, rfl, hx, hkc, hbl, x0, x1, x2, x3, x4⟩ := seg_at (HS.out.below HB.out HS.out.lt) hlt
      have hxn := HN.out x (List.mem_of_getElem? hx)
      rw [hxn] at x2
      have e1 : IntKind.i64.wrap (3 * (k : Int) + 3) = 3 * (k : Int) + 3 := IntWalk.i64_in _ (by omega)
      have e2 : IntKind.i64.wrap ((k : Int) + 1) = (k : Int) + 1 := IntWalk.i64_in _ (by omega)
      clear hx hxn
      go_wp2_with fail
      go_roundw
      case rel => exact ⟨k + 1, by omega, by go_num, congrArg (Value.int .i64) (by omega), Lib.hid (belowNew HB.out _)⟩
      case measure => simp [intOf]; omega
    · obtain rfl : k = m := by omega
      go_wp2
      go_ret
      exact ⟨rfl, belowThen HB1.out HB.out⟩
set_option maxHeartbeats 4000000 in
theorem pending_any (h : LogAt w0 g d q N S bl W) (hm : S.es.length ≤ 100000) : Calls Tryz.prog 14 #[.pointer (some ⟨g, 0, none⟩)] W fun e w' => e = .returned (.int .i64 (pendN S.es : Int)) ∧ Below W.heap.size W w' := by
  have kn := none_any h
  have kl := llist h
  have c14 : W.cell? ⟨g, 14, none⟩ = some (.pointer (some ⟨q, 0, none⟩)) := h.blk.cell 14
  obtain ⟨m, hmm⟩ : ∃ m, S.es.length = m := ⟨_, rfl⟩
  rw [hmm] at kl hm
  have HM := Lib.hid hmm
  clear hmm h
  go_enter Tryz.func14, Tryz.ntmps14
  go_wp2_with (first | (go_at_call 45; refine kn.mono ?_; rintro e w1 ⟨rfl, rfl⟩) | (go_at_call 46; refine kl.mono ?_; rintro e w1 ⟨A, C, rfl, h1, h2, hs, hb⟩; have HS := Lib.hid hs; have HB1 := Lib.hid hb; clear hs hb))
  go_loopw [3, 14] (fun s i wr => ∃ k : Nat, k ≤ m ∧ i = .int .i64 (k : Int) ∧ s = .int .i64 (pendN (S.es.take k) : Int) ∧ Hid (Below w1.heap.size w1 wr)) (fun _ i _ => m - (intOf i).toNat)
  case atStart => exact ⟨0, by omega, rfl, rfl, Lib.hid (belowSame _)⟩
  case round =>
    obtain ⟨k, hk, rfl, rfl, HB⟩ := hrel
    by_cases hlt : k < m
    · obtain ⟨b, off, x, rfl, hx, hkc, hbl, x0, x1, x2, x3, x4⟩ := seg_at (HS.out.below HB.out HS.out.lt) hlt
      have hp := pend_take hx
      have hp2 := pend_le (S.es.take k)
      have hp3 : (S.es.take k).length ≤ 100000 := by rw [List.length_take]; omega
      have HP := Lib.hid hp
      clear hx hp
      generalize pendN (S.es.take k) = z at *
      have e1 : IntKind.i64.wrap ((z : Int) + 1) = (z : Int) + 1 := IntWalk.i64_in _ (by omega)
      have e2 : IntKind.i64.wrap ((k : Int) + 1) = (k : Int) + 1 := IntWalk.i64_in _ (by omega)
      obtain ⟨y, hy⟩ : ∃ y, x.b = y := ⟨_, rfl⟩
      rw [hy] at x4
      have HY := Lib.hid hy
      clear hy
      cases y
      · go_wp2_with fail
        go_roundw
        case rel => exact ⟨k + 1, by omega, by go_num, by rw [HP.out, HY.out]; exact congrArg (Value.int .i64) (by simp), Lib.hid (belowNew HB.out _)⟩
        case measure => simp [intOf]; omega
      · go_wp2_with fail
        go_roundw
        case rel => exact ⟨k + 1, by omega, by go_num, by rw [HP.out, HY.out]; exact congrArg (Value.int .i64) (by simp), Lib.hid (belowNew HB.out _)⟩
        case measure => simp [intOf]; omega
    · obtain rfl : k = m := by omega
      rw [List.take_of_length_le (by rw [HM.out]; omega)]
      go_wp2
      go_ret
      exact ⟨rfl, belowThen HB1.out HB.out⟩
theorem most8 : RC.mostN 8 = 1 := by decide +kernel
theorem secs1 : RC.secsI 1 = 3 := by decide
/-- Fits, of a log whose records have three sectors each. -/
theorem fits_any (h : LogAt w0 g d q N S bl W) (hn : ∀ x ∈ S.es, x.n = 3) (hm : S.es.length ≤ 100000) (n : Int) : Calls Tryz.prog 17 #[.pointer (some ⟨g, 0, none⟩), .int .i64 n] W fun e w' => e = .returned (.bool (decide (n = 1) && decide (S.es.length ≤ 1))) ∧ Below W.heap.size W w' := by
  have km := may_any h
  have kmo := fun W => RC.most_any 8 (by decide) W
  rw [most8] at kmo
  have ku := fun W (h : LogAt w0 g d q N S bl W) => used_any h hn hm
  have ks := fun W => RC.sectors_any 1 W
  rw [secs1] at ks
  have kz := fun W (h : LogAt w0 g d q N S bl W) => size_any h
  have c3 : W.cell? ⟨g, 3, none⟩ = some (.int .i64 8) := h.blk.cell 3
  obtain ⟨m, hmm⟩ : ∃ m, S.es.length = m := ⟨_, rfl⟩
  rw [hmm] at ku hm ⊢
  have HH := Lib.hid h
  clear hn hmm h
  by_cases h1 : n < 1
  · have hd : decide (n < 1) = true := by simpa using h1
    have r : (decide (n = 1) && decide (m ≤ 1)) = false := by simp; omega
    rw [r]
    clear r h1
    go_enter Tryz.func17, Tryz.ntmps17
    go_wp2_with (go_at_call 39; refine km.mono ?_; rintro e w1 ⟨rfl, rfl⟩)
    go_ret
    exact ⟨rfl, belowSame _⟩
  · have hd : decide (n < 1) = false := by simp; omega
    by_cases h2 : 1 < n
    · have hd2 : decide (1 < n) = true := by simpa using h2
      have r : (decide (n = 1) && decide (m ≤ 1)) = false := by simp; omega
      rw [r]
      clear r h1 h2
      go_enter Tryz.func17, Tryz.ntmps17
      go_wp2_with (first | (go_at_call 39; refine km.mono ?_; rintro e w1 ⟨rfl, rfl⟩) | (go_at_call 41; refine (kmo _).mono ?_; rintro e w2 ⟨rfl, hb⟩; have HB := Lib.hid hb; clear hb))
      go_ret
      exact ⟨rfl, HB.out⟩
    · obtain rfl : n = 1 := by omega
      have r : (decide ((1 : Int) = 1) && decide (m ≤ 1)) = decide ((3 : Int) ≤ 7 - 3 * (m : Int)) := by
        by_cases hm1 : m ≤ 1
        · have : (3 : Int) ≤ 7 - 3 * (m : Int) := by omega
          simp [hm1, this]
        · have : ¬ (3 : Int) ≤ 7 - 3 * (m : Int) := by omega
          simp [hm1, this]
      rw [r]
      have e1 : IntKind.i64.wrap (7 - 3 * (m : Int)) = 7 - 3 * (m : Int) := IntWalk.i64_in _ (by omega)
      clear r h1 h2 hd
      go_enter Tryz.func17, Tryz.ntmps17
      go_wp2_with (first | (go_at_call 39; refine km.mono ?_; rintro e w1 ⟨rfl, rfl⟩) | (go_at_call 41; refine (kmo _).mono ?_; rintro e w2 ⟨rfl, hb⟩; have H2 := Lib.hid (HH.out.then_ hb); have HB := Lib.hid hb; clear hb) | (go_at_call 42; refine (ks _).mono ?_; rintro e w3 ⟨rfl, rfl⟩) | (go_at_call 44; refine (kz _ H2.out).mono ?_; rintro e w4 ⟨rfl, rfl⟩) | (go_at_call 13; refine (ku _ H2.out).mono ?_; rintro e w5 ⟨rfl, hb⟩; have HC := Lib.hid (belowThen HB.out hb); clear hb))
      go_ret
      exact ⟨rfl, HC.out⟩
end
end Go.Proofs.YtakilnpfhljgfaaGreat.WL

/- wlog: put, Write. No condition. -/
namespace Go.Proofs.YtakilnpfhljgfaaGreat.WL
set_option maxRecDepth 100000
open Go.RowKit Go.Proofs.YtakilnpfhljgfaaGreat.MI Go.Proofs.YtakilnpfhljgfaaGreat.WI Go.Proofs.YtakilnpfhljgfaaGreat.SM Go.Proofs.YtakilnpfhljgfaaGreat.DK Go.Proofs.YtakilnpfhljgfaaGreat.SU Go.Proofs.YtakilnpfhljgfaaGreat.BK
set_option linter.unusedVariables false
set_option linter.unusedSimpArgs false

section
variable {w0 W W' : World} {B g d q N N' : Nat} {S S' : Lg} {p : Pl} {D : Dk} {a : Option Addr} {c : Nat} {bl : List (Nat × TypeId × Array Value)}
theorem disk_up (h : DiskAt W B g p N D) (hN : N ≤ N') : DiskAt W B g p N' D :=
  ⟨h.blk, by obtain ⟨n, h1, h2⟩ := h.now; exact ⟨n, by omega, h2⟩, by obtain ⟨n, h1, h2⟩ := h.lasts; exact ⟨n, by omega, h2⟩, h.waits, h.stays, h.sn, h.far, h.spl, h.geg, h.gen, h.gel, h.ne, by have := h.seq; omega, h.sane⟩
theorem LogAt.up (h : LogAt w0 g d q N S bl W) (hN : N ≤ N') : LogAt w0 g d q N' S bl W := by
  obtain ⟨p, D, a, c, h1, h2, h3⟩ := h
  exact ⟨p, D, a, c, ⟨h1.fine, disk_up h1.disk hN, h1.ring, h1.blk, h1.geg, h1.gd, h1.gq, h1.dq⟩, h2, h3⟩
/-- A block made behind the log stands beside it. -/
theorem LogAt.side_new (h : LogAt w0 g d q N S bl W) (hb : Below W.heap.size W W') {x : Nat} {T : TypeId} {cs : Array Value} (hx : Blk W' x T cs) (hge : W.heap.size ≤ x) : LogAt w0 g d q N S ((x, T, cs) :: bl) W' := by
  obtain ⟨p, D, a, c, h1, h2, h3⟩ := h
  refine ⟨p, D, a, c, h1.then_ hb, belowThen h2 hb, fun b hbl => ?_⟩
  rcases List.mem_cons.1 hbl with e | hbl
  · rw [e]
    exact ⟨hx, fun hk => by have h5 := h1.disk.lt _ hk; exact absurd hge (by simp only at h5 ⊢; omega), fun hk => by have h5 := h1.ring.lt _ hk; exact absurd hge (by simp only at h5 ⊢; omega), fun e => by have h5 := h1.blk.lt; simp only at e; omega⟩
  · exact ⟨(h3 b hbl).1.below hb (h3 b hbl).1.lt, (h3 b hbl).2⟩
theorem LogAt.fresh (h : LogAt w0 g d q N S bl W) {x : Nat} (hx : W.heap.size ≤ x) : ∀ b ∈ bl, b.1 ≠ x := fun b hb e => by
  have := (h.side hb).lt
  omega
/-- The list of the entries; its row stands beside the log. -/
theorem llist2 (h : LogAt w0 g d q N S bl W) :
    Calls Tryz.prog 46 #[.pointer (some ⟨q, 0, none⟩)] W fun z w' => ∃ A C bx, z = .returned (.slice A S.es.length C) ∧ S.es.length ≤ C ∧ C ≤ maxLen ∧ LogAt w0 g d q N S (bx ++ bl) w' ∧ ∀ w'', (∀ b ∈ bx, Blk w'' b.1 b.2.1 b.2.2) → 0 < S.es.length → Seg w'' W.heap.size TEn 5 A S.es.length C (S.es.flatMap RE.val) := by
  refine (llist h).mono fun z w' ⟨A, C, hz, h1, h2, hs, hb⟩ => ?_
  by_cases h0 : 0 < S.es.length
  · rcases hs.2.2.2 with ⟨_, e⟩ | ⟨b, off, cur, e, hge, hh, hfit, hx⟩
    · omega
    · have hblk : Blk w' b TEn cur := hh
      refine ⟨A, C, [(b, TEn, cur)], hz, h1, h2, h.side_new hb hblk hge, fun w'' hw _ => ⟨hs.1, h1, h2, .inr ⟨b, off, cur, e, hge, hw _ (List.mem_cons_self ..), hfit, hx⟩⟩⟩
  · exact ⟨A, C, [], hz, h1, h2, h.then_ hb, fun _ _ h1 => absurd h1 h0⟩
end
section
variable {w0 W W' : World} {g d q N : Nat} {S : Lg} {bl : List (Nat × TypeId × Array Value)}
set_option maxHeartbeats 8000000 in
theorem put_any (h : LogAt w0 g d q N S bl W) (l p : Int) (T : ByteArray) (wb : Bool) (hp : 0 ≤ p ∧ p ≤ 6) (hT : T.size = 192) (hN : N ≤ 9000000) :
    Calls Tryz.prog 52 #[.pointer (some ⟨g, 0, none⟩), .agg #[.int .u64 l, .int .i64 p, .int .i64 3, .string T, .bool wb]] W fun e w' => e = .returned (.int .i64 0) ∧ LogAt w0 g d q (N + 48) S bl w' := by
  have h1 := h.beside TEn #[.int .u64 l, .int .i64 p, .int .i64 3, .string T, .bool wb]
  obtain ⟨W1, hW1⟩ : ∃ W1, W.alloc (.cells #[.int .u64 l, .int .i64 p, .int .i64 3, .string T, .bool wb] TEn) = W1 := ⟨_, rfl⟩
  obtain ⟨x0, hx0⟩ : ∃ x, W.heap.size = x := ⟨_, rfl⟩
  rw [hW1, hx0] at h1
  have H1 := Lib.hid h1
  have HW := Lib.hid hW1
  have HX := Lib.hid hx0
  clear h h1 hW1 hx0
  go_enter Tryz.func52, Tryz.ntmps52
  go_upto_region 1 with fail
  rw [show W.alloc (.cells #[.int .u64 l, .int .i64 p, .int .i64 3, .string T, .bool wb] TEn) = W1 from HW.out, HX.out]
  clear HW HX
  go_wp2_with fail
  go_loopw [5] (fun i wr => ∃ k : Nat, k ≤ 3 ∧ i = .int .i64 (k : Int) ∧ Hid (LogAt w0 g d q (N + 16 * k) S ((x0, TEn, #[.int .u64 l, .int .i64 p, .int .i64 3, .string T, .bool wb]) :: bl) wr)) (fun i _ => 3 - (intOf i).toNat)
  case atStart => exact ⟨0, by omega, rfl, Lib.hid (H1.out.up (by omega))⟩
  case round =>
    obtain ⟨k, hk, rfl, H⟩ := hrel
    have x1 : wr.cell? ⟨x0, 1, none⟩ = some (.int .i64 p) := H.out.b0.cell 1
    have x2 : wr.cell? ⟨x0, 2, none⟩ = some (.int .i64 3) := H.out.b0.cell 2
    have x3 : wr.cell? ⟨x0, 3, none⟩ = some (.string T) := H.out.b0.cell 3
    by_cases hlt : k < 3
    · have c0 : wr.cell? ⟨g, 0, none⟩ = some (.pointer (some ⟨d, 0, none⟩)) := H.out.blk.cell 0
      have c6 : wr.cell? ⟨g, 6, none⟩ = some (.int .i64 1) := H.out.blk.cell 6
      have c7 : wr.cell? ⟨g, 7, none⟩ = some (.int .u64 9) := H.out.blk.cell 7
      have c8 : wr.cell? ⟨g, 8, none⟩ = some (.int .i64 1) := H.out.blk.cell 8
      obtain ⟨at_, hat⟩ : ∃ a, (p + (k : Int)).tmod 7 = a := ⟨_, rfl⟩
      have hat2 : 0 ≤ at_ ∧ at_ ≤ 6 := by rw [← hat, Int.tmod_eq_emod_of_nonneg (by omega)]; omega
      obtain ⟨z, hz⟩ : ∃ z : Int, 3 - (k : Int) = z := ⟨_, rfl⟩
      obtain ⟨r, hr⟩ : ∃ r : Int, 7 - at_ = r := ⟨_, rfl⟩
      have e9 : (p + (k : Int)).tmod 7 = at_ := hat
      have e1 : IntKind.i64.wrap (p + (k : Int)) = p + (k : Int) := IntWalk.i64_in _ (by omega)
      have e2 : IntKind.i64.wrap at_ = at_ := IntWalk.i64_in _ (by omega)
      have e3 : IntKind.i64.wrap (3 - (k : Int)) = z := by rw [hz]; exact IntWalk.i64_in _ (by omega)
      have e4 : IntKind.i64.wrap (7 - at_) = r := by rw [hr]; exact IntWalk.i64_in _ (by omega)
      have m1 : z < 16 := by omega
      by_cases hzr : r < z
      · skip
        obtain ⟨n, hn⟩ : ∃ n : Nat, r = (n : Int) := ⟨r.toNat, by omega⟩
        have hn1 : 1 ≤ n := by omega
        have hkn : k + n ≤ 3 := by omega
        have han : at_ + (n : Int) ≤ 7 := by omega
        have e5 : IntKind.i64.wrap ((k : Int) * 64) = (k : Int) * 64 := IntWalk.i64_in _ (by omega)
        have e6 : IntKind.i64.wrap ((k : Int) + (n : Int)) = (k : Int) + (n : Int) := IntWalk.i64_in _ (by omega)
        have e7 : IntKind.i64.wrap (((k : Int) + (n : Int)) * 64) = ((k : Int) + (n : Int)) * 64 := IntWalk.i64_in _ (by omega)
        have e8 : IntKind.i64.wrap (2 + at_) = 2 + at_ := IntWalk.i64_in _ (by omega)
        have e10 : wrap64 (2 + at_) = 2 + at_ := by unfold wrap64; omega
        have t1 : ((k : Int) * 64).toNat = k * 64 := by omega
        have t2 : (((k : Int) + (n : Int)) * 64).toNat = (k + n) * 64 := by omega
        obtain ⟨P, hP⟩ : ∃ P, T.extract (k * 64) ((k + n) * 64) = P := ⟨_, rfl⟩
        have hPs : P.size = 64 * n := by rw [← hP, ByteArray.size_extract]; omega
        have hsl : ∀ w : World, (Instr.slice 9 (.string T) (some (.int .i64 ((k : Int) * 64))) (some (.int .i64 (((k : Int) + (n : Int)) * 64))) none).run Tryz.prog w = .ok (.string P) w := fun w => by
          rw [run_slice_string (P := Tryz.prog) w _ T .i64 .i64 ((k : Int) * 64) (((k : Int) + (n : Int)) * 64) Tryz.underlying9 (by omega) (by omega) (by omega), t1, t2, hP]
        rw [hn] at e4 hzr
        have KW := Lib.hid (fun W (h : LogAt w0 g d q (N + 16 * k) S ((x0, TEn, #[.int .u64 l, .int .i64 p, .int .i64 3, .string T, .bool wb]) :: bl) W) => lwrite h (2 + at_) P n hPs (by omega) (by omega) (by omega))
        clear hPs hP t1 t2 hat hat2 hz hr hn
        go_wp2_with fail
        go_quiet ((go_at_call 44; exact Calls.quiet_of_same ((size_any (H.out.drewN _)).mono fun _ _ ⟨a, b⟩ => ⟨a, b.symm⟩)))
        have hq := H.out.drewN nq
        obtain ⟨wq, hwq⟩ : ∃ W, wr.drewN nq = W := ⟨_, rfl⟩
        rw [hwq] at hq ⊢
        have HQ := Lib.hid hq
        clear x1 x2 x3 c0 c6 c7 c8 hwq
        have c0 : wq.cell? ⟨g, 0, none⟩ = some (.pointer (some ⟨d, 0, none⟩)) := hq.blk.cell 0
        have c6 : wq.cell? ⟨g, 6, none⟩ = some (.int .i64 1) := hq.blk.cell 6
        have c7 : wq.cell? ⟨g, 7, none⟩ = some (.int .u64 9) := hq.blk.cell 7
        have c8 : wq.cell? ⟨g, 8, none⟩ = some (.int .i64 1) := hq.blk.cell 8
        have x1 : wq.cell? ⟨x0, 1, none⟩ = some (.int .i64 p) := hq.b0.cell 1
        have x2 : wq.cell? ⟨x0, 2, none⟩ = some (.int .i64 3) := hq.b0.cell 2
        have x3 : wq.cell? ⟨x0, 3, none⟩ = some (.string T) := hq.b0.cell 3
        clear hq
        go_wp2_with fail
        go_quiet ((go_at_call 44; exact Calls.quiet_of_same ((size_any (HQ.out.drewN _)).mono fun _ _ ⟨a, b⟩ => ⟨a, b.symm⟩)))
        have hv := HQ.out.drewN nq
        obtain ⟨wv, hwv⟩ : ∃ W, wq.drewN nq = W := ⟨_, rfl⟩
        rw [hwv] at hv ⊢
        have HV := Lib.hid hv
        clear x1 x2 x3 c0 c6 c7 c8 hwv
        have c0 : wv.cell? ⟨g, 0, none⟩ = some (.pointer (some ⟨d, 0, none⟩)) := hv.blk.cell 0
        have c6 : wv.cell? ⟨g, 6, none⟩ = some (.int .i64 1) := hv.blk.cell 6
        have c7 : wv.cell? ⟨g, 7, none⟩ = some (.int .u64 9) := hv.blk.cell 7
        have c8 : wv.cell? ⟨g, 8, none⟩ = some (.int .i64 1) := hv.blk.cell 8
        have x3 : wv.cell? ⟨x0, 3, none⟩ = some (.string T) := hv.b0.cell 3
        clear hv
        go_wp2_with fail
        go_still_tail 28, (by kernel_rfl)
        go_wp2_with (go_at_call 75; (try rw [e10]); refine (KW.out _ HV.out.drew).mono ?_; rintro x w2 ⟨rfl, ho2⟩; have H2 := Lib.hid ho2; clear ho2)
        go_roundw
        case rel => exact ⟨k + n, by omega, by go_num, Lib.hid (H2.out.up (by omega))⟩
        case measure => simp [intOf]; omega
      · skip
        obtain ⟨n, hn⟩ : ∃ n : Nat, z = (n : Int) := ⟨z.toNat, by omega⟩
        have hn1 : 1 ≤ n := by omega
        have hkn : k + n ≤ 3 := by omega
        have han : at_ + (n : Int) ≤ 7 := by omega
        have e5 : IntKind.i64.wrap ((k : Int) * 64) = (k : Int) * 64 := IntWalk.i64_in _ (by omega)
        have e6 : IntKind.i64.wrap ((k : Int) + (n : Int)) = (k : Int) + (n : Int) := IntWalk.i64_in _ (by omega)
        have e7 : IntKind.i64.wrap (((k : Int) + (n : Int)) * 64) = ((k : Int) + (n : Int)) * 64 := IntWalk.i64_in _ (by omega)
        have e8 : IntKind.i64.wrap (2 + at_) = 2 + at_ := IntWalk.i64_in _ (by omega)
        have e10 : wrap64 (2 + at_) = 2 + at_ := by unfold wrap64; omega
        have t1 : ((k : Int) * 64).toNat = k * 64 := by omega
        have t2 : (((k : Int) + (n : Int)) * 64).toNat = (k + n) * 64 := by omega
        obtain ⟨P, hP⟩ : ∃ P, T.extract (k * 64) ((k + n) * 64) = P := ⟨_, rfl⟩
        have hPs : P.size = 64 * n := by rw [← hP, ByteArray.size_extract]; omega
        have hsl : ∀ w : World, (Instr.slice 9 (.string T) (some (.int .i64 ((k : Int) * 64))) (some (.int .i64 (((k : Int) + (n : Int)) * 64))) none).run Tryz.prog w = .ok (.string P) w := fun w => by
          rw [run_slice_string (P := Tryz.prog) w _ T .i64 .i64 ((k : Int) * 64) (((k : Int) + (n : Int)) * 64) Tryz.underlying9 (by omega) (by omega) (by omega), t1, t2, hP]
        rw [hn] at e3 m1 hzr
        have KW := Lib.hid (fun W (h : LogAt w0 g d q (N + 16 * k) S ((x0, TEn, #[.int .u64 l, .int .i64 p, .int .i64 3, .string T, .bool wb]) :: bl) W) => lwrite h (2 + at_) P n hPs (by omega) (by omega) (by omega))
        clear hPs hP t1 t2 hat hat2 hz hr hn
        go_wp2_with fail
        go_quiet ((go_at_call 44; exact Calls.quiet_of_same ((size_any (H.out.drewN _)).mono fun _ _ ⟨a, b⟩ => ⟨a, b.symm⟩)))
        have hq := H.out.drewN nq
        obtain ⟨wq, hwq⟩ : ∃ W, wr.drewN nq = W := ⟨_, rfl⟩
        rw [hwq] at hq ⊢
        have HQ := Lib.hid hq
        clear x1 x2 x3 c0 c6 c7 c8 hwq
        have c0 : wq.cell? ⟨g, 0, none⟩ = some (.pointer (some ⟨d, 0, none⟩)) := hq.blk.cell 0
        have c6 : wq.cell? ⟨g, 6, none⟩ = some (.int .i64 1) := hq.blk.cell 6
        have c7 : wq.cell? ⟨g, 7, none⟩ = some (.int .u64 9) := hq.blk.cell 7
        have c8 : wq.cell? ⟨g, 8, none⟩ = some (.int .i64 1) := hq.blk.cell 8
        have x1 : wq.cell? ⟨x0, 1, none⟩ = some (.int .i64 p) := hq.b0.cell 1
        have x2 : wq.cell? ⟨x0, 2, none⟩ = some (.int .i64 3) := hq.b0.cell 2
        have x3 : wq.cell? ⟨x0, 3, none⟩ = some (.string T) := hq.b0.cell 3
        clear hq
        go_wp2_with fail
        go_quiet ((go_at_call 44; exact Calls.quiet_of_same ((size_any (HQ.out.drewN _)).mono fun _ _ ⟨a, b⟩ => ⟨a, b.symm⟩)))
        have hv := HQ.out.drewN nq
        obtain ⟨wv, hwv⟩ : ∃ W, wq.drewN nq = W := ⟨_, rfl⟩
        rw [hwv] at hv ⊢
        have HV := Lib.hid hv
        clear x1 x2 x3 c0 c6 c7 c8 hwv
        have c0 : wv.cell? ⟨g, 0, none⟩ = some (.pointer (some ⟨d, 0, none⟩)) := hv.blk.cell 0
        have c6 : wv.cell? ⟨g, 6, none⟩ = some (.int .i64 1) := hv.blk.cell 6
        have c7 : wv.cell? ⟨g, 7, none⟩ = some (.int .u64 9) := hv.blk.cell 7
        have c8 : wv.cell? ⟨g, 8, none⟩ = some (.int .i64 1) := hv.blk.cell 8
        have x3 : wv.cell? ⟨x0, 3, none⟩ = some (.string T) := hv.b0.cell 3
        clear hv
        go_wp2_with fail
        go_still_tail 28, (by kernel_rfl)
        go_wp2_with (go_at_call 75; (try rw [e10]); refine (KW.out _ HV.out.drew).mono ?_; rintro x w2 ⟨rfl, ho2⟩; have H2 := Lib.hid ho2; clear ho2)
        go_roundw
        case rel => exact ⟨k + n, by omega, by go_num, Lib.hid (H2.out.up (by omega))⟩
        case measure => simp [intOf]; omega
    · obtain rfl : k = 3 := by omega
      have H3 := Lib.hid H.out.pop
      go_wp2
      go_ret
      exact ⟨rfl, H3.out⟩
end
end Go.Proofs.YtakilnpfhljgfaaGreat.WL

/- wlog: Write. No condition. -/
namespace Go.Proofs.YtakilnpfhljgfaaGreat.WL
set_option maxRecDepth 100000
open Go.RowKit Go.Proofs.YtakilnpfhljgfaaGreat.MI Go.Proofs.YtakilnpfhljgfaaGreat.WI Go.Proofs.YtakilnpfhljgfaaGreat.SM Go.Proofs.YtakilnpfhljgfaaGreat.DK Go.Proofs.YtakilnpfhljgfaaGreat.SU Go.Proofs.YtakilnpfhljgfaaGreat.BK
set_option linter.unusedVariables false
set_option linter.unusedSimpArgs false

/-- An entry, once it is written. -/
def doneE (x : RE.En) : RE.En := if x.b then x else ⟨x.l, x.p, x.n, ⟨#[]⟩, true⟩
/-- The last that is written, once all are. -/
def wrW (v : Int) (es : List RE.En) : Int := es.foldl (fun w x => if x.b then w else x.l) v
structure EnOk (x : RE.En) : Prop where
  n : x.n = 3
  p : 0 ≤ x.p ∧ x.p ≤ 6
  d : x.b = false → x.d.size = 192
/-- The first k are written. -/
def upTo (es : List RE.En) (k : Nat) : List RE.En := (es.take k).map doneE ++ es.drop k
theorem upTo_zero (es : List RE.En) : upTo es 0 = es := rfl
theorem upTo_len (es : List RE.En) (k : Nat) (hk : k ≤ es.length) : (upTo es k).length = es.length := by
  unfold upTo; simp; omega
theorem upTo_all (es : List RE.En) : upTo es es.length = es.map doneE := by unfold upTo; simp
theorem upTo_skip {es : List RE.En} {k : Nat} {x : RE.En} (hx : es[k]? = some x) (hb : x.b = true) : upTo es (k + 1) = upTo es k := by
  have hlt : k < es.length := by
    rcases Nat.lt_or_ge k es.length with h | h
    · exact h
    · rw [List.getElem?_eq_none h] at hx; cases hx
  have he : es[k] = x := by rw [List.getElem?_eq_getElem hlt] at hx; injection hx
  unfold upTo
  rw [List.take_add_one, hx, List.map_append, List.append_assoc]
  congr 1
  rw [List.drop_eq_getElem_cons hlt, he]
  show [doneE x] ++ _ = _
  unfold doneE
  rw [if_pos hb]
  rfl
theorem upTo_set {es : List RE.En} {k : Nat} {x : RE.En} (hx : es[k]? = some x) (hb : x.b = false) : (upTo es k).set k ⟨x.l, x.p, x.n, ⟨#[]⟩, true⟩ = upTo es (k + 1) := by
  have hlt : k < es.length := by
    rcases Nat.lt_or_ge k es.length with h | h
    · exact h
    · rw [List.getElem?_eq_none h] at hx; cases hx
  have he : es[k] = x := by rw [List.getElem?_eq_getElem hlt] at hx; injection hx
  have hl : ((es.take k).map doneE).length = k := by simp; omega
  unfold upTo
  rw [List.set_append_right _ _ (by omega), hl, Nat.sub_self, List.drop_eq_getElem_cons hlt, List.set_cons_zero, List.take_add_one, hx, List.map_append, List.append_assoc]
  congr 1
  show _ = [doneE x] ++ _
  unfold doneE
  rw [if_neg (by rw [hb]; decide)]
  rfl
theorem wrW_take {es : List RE.En} {k : Nat} {x : RE.En} (hx : es[k]? = some x) (v : Int) : wrW v (es.take (k + 1)) = if x.b then wrW v (es.take k) else x.l := by
  unfold wrW
  rw [List.take_add_one, hx, List.foldl_append]
  rfl
section
variable {w0 W W' : World} {g d q N : Nat} {S : Lg} {bl : List (Nat × TypeId × Array Value)}
set_option maxHeartbeats 8000000 in
theorem lwr_any (h : LogAt w0 g d q N S bl W) (hok : ∀ x ∈ S.es, EnOk x) (hm : S.es.length ≤ 1000) (hN : N ≤ 8000000) :
    Calls Tryz.prog 20 #[.pointer (some ⟨g, 0, none⟩)] W fun e w' => e = .returned (.tuple #[.int .i64 (pendN S.es : Int), .int .i64 0]) ∧ LogAt w0 g d q (N + 48 * S.es.length) { S with es := S.es.map doneE, written := wrW S.written S.es } bl w' := by
  have km := may_any h
  have kl := llist2 h
  have c14 : W.cell? ⟨g, 14, none⟩ = some (.pointer (some ⟨q, 0, none⟩)) := h.blk.cell 14
  have hge := h.ge
  have hw0 : w0.heap.size ≤ W.heap.size := h.bel.size
  obtain ⟨m, hmm⟩ : ∃ m, S.es.length = m := ⟨_, rfl⟩
  rw [hmm] at kl hm ⊢
  have HOK := Lib.hid hok
  have HM := Lib.hid hmm
  have HST : Hid (∀ W, LogAt w0 g d q N S bl W → True) := Lib.hid (fun _ _ => trivial)
  clear hmm h hok HST
  go_enter Tryz.func20, Tryz.ntmps20
  go_wp2_with (first | (go_at_call 39; refine km.mono ?_; rintro e w1 ⟨rfl, rfl⟩) | (go_at_call 46; refine kl.mono ?_; rintro e w1 ⟨A, C, bx, rfl, h1, h2, hs, hb⟩; have H1 := Lib.hid hs; have HSG := Lib.hid hb; clear hs hb))
  go_loopw [5, 20] (fun s i wr => ∃ k : Nat, k ≤ m ∧ i = .int .i64 (k : Int) ∧ s = .int .i64 (pendN (S.es.take k) : Int) ∧ Hid (LogAt w0 g d q (N + 48 * k) { S with es := upTo S.es k, written := wrW S.written (S.es.take k) } (bx ++ bl) wr)) (fun _ i _ => m - (intOf i).toNat)
  case atStart => exact ⟨0, by omega, rfl, rfl, Lib.hid H1.out⟩
  case round =>
    obtain ⟨k, hk, rfl, rfl, H⟩ := hrel
    by_cases hlt : k < m
    · obtain ⟨b, off, x, rfl, hx, hkc, hbl, x0, x1, x2, x3, x4⟩ := seg_at (HSG.out wr (fun b hb => H.out.side (List.mem_append_left _ hb)) (by omega)) hlt
      have hxo := HOK.out x (List.mem_of_getElem? hx)
      have hp := pend_take hx
      have hp2 := pend_le (S.es.take k)
      have hp3 : (S.es.take k).length ≤ 100000 := by rw [List.length_take, HM.out]; omega
      have hws := wrW_take hx S.written
      have hlen := upTo_len S.es k (by rw [HM.out]; omega)
      rw [HM.out] at hlen
      have e2 : IntKind.i64.wrap ((k : Int) + 1) = (k : Int) + 1 := IntWalk.i64_in _ (by omega)
      have HX := Lib.hid hx
      obtain ⟨xl, xp, xn, xd, xb⟩ := x
      obtain ⟨o1, o2, o3⟩ := hxo
      dsimp only at o1 o2 o3 x0 x1 x2 x3 x4 hp hws
      subst o1
      have HO := Lib.hid (And.intro o2 o3)
      have HP := Lib.hid hp
      have HWS := Lib.hid hws
      have HLEN := Lib.hid hlen
      generalize hz : pendN (S.es.take k) = z at *
      have HZ := Lib.hid hz
      have e1 : IntKind.i64.wrap ((z : Int) + 1) = (z : Int) + 1 := IntWalk.i64_in _ (by omega)
      clear hx o2 o3 hp hws hlen hz hp2 hp3
      cases xb
      · go_upto_region 8 with fail
        have hh := H.out.beside TEn #[.int .u64 xl, .int .i64 xp, .int .i64 3, .string xd, .bool false]
        have hfr := H.out.fresh (Nat.le_refl _)
        have hgs := H.out.bel.size
        obtain ⟨Wb, hWb⟩ : ∃ Wb, wr.alloc (.cells #[.int .u64 xl, .int .i64 xp, .int .i64 3, .string xd, .bool false] TEn) = Wb := ⟨_, rfl⟩
        obtain ⟨y0, hy0⟩ : ∃ y, wr.heap.size = y := ⟨_, rfl⟩
        rw [hWb, hy0] at hh
        rw [hWb, hy0]
        rw [hy0] at hfr hgs
        have b0 : Wb.cell? ⟨y0, 0, none⟩ = some (.int .u64 xl) := hh.b0.cell 0
        have b1 : Wb.cell? ⟨y0, 1, none⟩ = some (.int .i64 xp) := hh.b0.cell 1
        have b2 : Wb.cell? ⟨y0, 2, none⟩ = some (.int .i64 3) := hh.b0.cell 2
        have b3 : Wb.cell? ⟨y0, 3, none⟩ = some (.string xd) := hh.b0.cell 3
        have b4 : Wb.cell? ⟨y0, 4, none⟩ = some (.bool false) := hh.b0.cell 4
        have kp := put_any hh xl xp xd false HO.out.1 (HO.out.2 rfl) (by omega)
        have HFR := Lib.hid hfr
        have HGS := Lib.hid hgs
        clear hh hfr hgs hWb hy0 x0 x1 x2 x3 x4 H
        go_upto_region 12 with (go_at_call 52; refine kp.mono ?_; rintro e w2 ⟨rfl, ho⟩; have q4 := ho.b0.frozen 4; have q3 := ho.b0.frozen 3; have s4 : w2.cell? ⟨y0, 4, none⟩ = some (.bool false) := ho.b0.cell 4; have s3 : w2.cell? ⟨y0, 3, none⟩ = some (.string xd) := ho.b0.cell 3; have H2 := Lib.hid ho; clear ho kp)
        clear b0 b1 b2 b3 b4
        have h3 := (H2.out.turn HGS.out HFR.out 4 (.bool true)).turn HGS.out HFR.out 3 (.string ⟨#[]⟩)
        go_upto_region 13 with fail
        obtain ⟨W3, hW3⟩ : ∃ W3, (w2.setCell ⟨y0, 4, none⟩ (.bool true)).setCell ⟨y0, 3, none⟩ (.string ⟨#[]⟩) = W3 := ⟨_, rfl⟩
        rw [hW3] at h3 ⊢
        have b0 : W3.cell? ⟨y0, 0, none⟩ = some (.int .u64 xl) := h3.b0.cell 0
        have b1 : W3.cell? ⟨y0, 1, none⟩ = some (.int .i64 xp) := h3.b0.cell 1
        have b2 : W3.cell? ⟨y0, 2, none⟩ = some (.int .i64 3) := h3.b0.cell 2
        have b3 : W3.cell? ⟨y0, 3, none⟩ = some (.string ⟨#[]⟩) := h3.b0.cell 3
        have b4 : W3.cell? ⟨y0, 4, none⟩ = some (.bool true) := h3.b0.cell 4
        have c14 : W3.cell? ⟨g, 14, none⟩ = some (.pointer (some ⟨q, 0, none⟩)) := h3.blk.cell 14
        have H3 := Lib.hid h3
        clear h3 hW3 q3 q4 s3 s4 H2
        go_still_tail 6, (by kernel_rfl)
        have ks : Calls Tryz.prog 53 #[.pointer (some ⟨q, 0, none⟩), .int .i64 (k : Int), .agg #[.int .u64 xl, .int .i64 xp, .int .i64 3, .string ⟨#[]⟩, .bool true]] W3.drew _ := lset H3.out.drew k ⟨xl, xp, 3, ⟨#[]⟩, true⟩ (by show k < (upTo S.es k).length; rw [HLEN.out]; omega)
        clear c14 b0 b1 b2 b3 b4
        go_upto_region 14 with (go_at_call 53; refine ks.mono ?_; rintro e w4 ⟨rfl, ho⟩; have b0 : w4.cell? ⟨y0, 0, none⟩ = some (.int .u64 xl) := ho.b0.cell 0; have f12 := ho.blk.frozen 12; have c12 : w4.cell? ⟨g, 12, none⟩ = some (.int .u64 (wrW S.written (S.es.take k))) := ho.blk.cell 12; have h5 := (ho.set (S' := { S with es := upTo S.es (k + 1), written := xl }) 12 (.int .u64 xl) rfl (upTo_set HX.out rfl).symm).pop; have H5 := Lib.hid h5; clear ho h5 ks)
        go_wp2_with fail
        go_roundw
        case rel => exact ⟨k + 1, by omega, by go_num, by rw [HP.out]; exact congrArg (Value.int .i64) (by simp), Lib.hid (by have := H5.out.up (N' := N + 48 * (k + 1)) (by omega); rw [HWS.out]; exact this)⟩
        case measure => simp [intOf]; omega
      · have hh := H.out.alloc (.cells #[.int .u64 xl, .int .i64 xp, .int .i64 3, .string xd, .bool true] TEn)
        have HH := Lib.hid hh
        clear hh
        go_wp2_with fail
        go_roundw
        case rel => exact ⟨k + 1, by omega, by go_num, by rw [HP.out]; exact congrArg (Value.int .i64) (by simp), Lib.hid (by have := HH.out.up (N' := N + 48 * (k + 1)) (by omega); rw [HWS.out, upTo_skip HX.out rfl]; exact this)⟩
        case measure => simp [intOf]; omega
    · obtain rfl : k = m := by omega
      have ht : S.es.take k = S.es := List.take_of_length_le (by rw [HM.out]; omega)
      have hu : upTo S.es k = S.es.map doneE := by have := upTo_all S.es; rw [HM.out] at this; exact this
      have hE : LogAt w0 g d q (N + 48 * k) { S with es := S.es.map doneE, written := wrW S.written S.es } bl wr := by
        have h1 := H.out
        rw [hu, ht] at h1
        exact h1.less fun b hb => List.mem_append_right _ hb
      rw [ht]
      have HE := Lib.hid hE
      clear hE H ht hu
      go_wp2
      go_ret2
      exact ⟨rfl, HE.out⟩
end
end Go.Proofs.YtakilnpfhljgfaaGreat.WL

/- wlog: Sync, Free. No condition. -/
namespace Go.Proofs.YtakilnpfhljgfaaGreat.WL
set_option maxRecDepth 100000
open Go.RowKit Go.Proofs.YtakilnpfhljgfaaGreat.MI Go.Proofs.YtakilnpfhljgfaaGreat.WI Go.Proofs.YtakilnpfhljgfaaGreat.SM Go.Proofs.YtakilnpfhljgfaaGreat.DK Go.Proofs.YtakilnpfhljgfaaGreat.SU Go.Proofs.YtakilnpfhljgfaaGreat.BK
set_option linter.unusedVariables false
set_option linter.unusedSimpArgs false

section
variable {w0 W W' : World} {g d q N : Nat} {S : Lg} {bl : List (Nat × TypeId × Array Value)}
set_option maxHeartbeats 4000000 in
theorem sync_any (h : LogAt w0 g d q N S bl W) (hok : ∀ x ∈ S.es, EnOk x) (hm : S.es.length ≤ 1000) (hN : N ≤ 8000000) (v : Int) (hv : wrW S.written S.es = v) (hsv : S.synced ≤ v) :
    Calls Tryz.prog 18 #[.pointer (some ⟨g, 0, none⟩)] W fun e w' => e = .returned (.int .i64 0) ∧ LogAt w0 g d q (N + 48 * S.es.length) { S with es := S.es.map doneE, written := v, synced := v } bl w' := by
  have kw := lwr_any h hok hm hN
  rw [hv] at kw
  obtain ⟨L, hL⟩ : ∃ L, N + 48 * S.es.length = L := ⟨_, rfl⟩
  have hL2 : L ≤ 9000000 := by omega
  rw [hL] at kw ⊢
  obtain ⟨S1, hS1⟩ : ∃ S1 : Lg, { S with es := S.es.map doneE, written := v } = S1 := ⟨_, rfl⟩
  have hS2 : { S with es := S.es.map doneE, written := v, synced := v } = { S1 with synced := v } := by rw [← hS1]
  have hw1 : S1.written = v := by rw [← hS1]
  have hs1 : S1.synced = S.synced := by rw [← hS1]
  rw [hS1] at kw
  rw [hS2]
  rw [← hs1] at hsv
  generalize pendN S.es = pn at kw
  clear hS1 hS2 hs1 hL hv hok hm h
  by_cases hlt : S1.synced < v
  · go_enter Tryz.func18, Tryz.ntmps18
    go_upto_region 4 with (go_at_call 20; refine kw.mono ?_; rintro e w1 ⟨rfl, ho⟩; have c12 : w1.cell? ⟨g, 12, none⟩ = some (.int .u64 v) := hw1 ▸ ho.blk.cell 12; have c13 : w1.cell? ⟨g, 13, none⟩ = some (.int .u64 S1.synced) := ho.blk.cell 13; have H1 := Lib.hid ho; clear ho kw)
    go_quiet (fail)
    have hq := H1.out.drewN nq
    obtain ⟨wq, hwq⟩ : ∃ W, w1.drewN nq = W := ⟨_, rfl⟩
    rw [hwq] at hq ⊢
    have c0 : wq.cell? ⟨g, 0, none⟩ = some (.pointer (some ⟨d, 0, none⟩)) := hq.blk.cell 0
    have c6 : wq.cell? ⟨g, 6, none⟩ = some (.int .i64 1) := hq.blk.cell 6
    have c7 : wq.cell? ⟨g, 7, none⟩ = some (.int .u64 9) := hq.blk.cell 7
    have HQ := Lib.hid hq
    clear hq hwq c12 c13 H1
    go_upto_region 5 with fail
    go_still_tail 12, (by kernel_rfl)
    go_wp2_with (go_at_call 48; refine (lbarrier HQ.out.drew (by omega)).mono ?_; rintro e w2 ⟨rfl, ho⟩; have c12 : w2.cell? ⟨g, 12, none⟩ = some (.int .u64 v) := hw1 ▸ ho.blk.cell 12; have c13 : w2.cell? ⟨g, 13, none⟩ = some (.int .u64 S1.synced) := ho.blk.cell 13; have f13 := ho.blk.frozen 13; have h5 := ho.set (S' := { S1 with synced := v }) 13 (.int .u64 v) rfl rfl; have H5 := Lib.hid h5; clear ho h5)
    go_ret
    exact ⟨rfl, H5.out⟩
  · have he : S1.synced = v := by omega
    have hS3 : { S1 with synced := v } = S1 := by rw [← he]
    rw [hS3]
    go_enter Tryz.func18, Tryz.ntmps18
    go_wp2_with (go_at_call 20; refine kw.mono ?_; rintro e w1 ⟨rfl, ho⟩; have c12 : w1.cell? ⟨g, 12, none⟩ = some (.int .u64 v) := hw1 ▸ ho.blk.cell 12; have c13 : w1.cell? ⟨g, 13, none⟩ = some (.int .u64 v) := he ▸ ho.blk.cell 13; have H1 := Lib.hid ho; clear ho kw hS3)
    go_quiet (fail)
    go_wp2_with fail
    go_ret
    exact ⟨rfl, H1.out.drewN _⟩
theorem free_low (h : LogAt w0 g d q N S bl W) (l : Int) (hl : l ≤ S.synced + 1) (hs : 0 ≤ S.synced ∧ S.synced ≤ 1000000) (hf : l ≤ S.first) :
    Calls Tryz.prog 19 #[.pointer (some ⟨g, 0, none⟩), .int .u64 l] W fun e w' => e = .returned (.int .i64 0) ∧ LogAt w0 g d q N S bl w' := by
  have km := may_any h
  have c13 : W.cell? ⟨g, 13, none⟩ = some (.int .u64 S.synced) := h.blk.cell 13
  have c10 : W.cell? ⟨g, 10, none⟩ = some (.int .u64 S.first) := h.blk.cell 10
  have e1 : IntKind.u64.wrap (S.synced + 1) = S.synced + 1 := IntWalk.u64_in _ (by omega)
  have HH := Lib.hid h
  have d1 : ¬ S.synced + 1 < l := by omega
  obtain ⟨y, hy⟩ : ∃ y, S.synced + 1 = y := ⟨_, rfl⟩
  clear h
  go_enter Tryz.func19, Tryz.ntmps19
  go_wp2_with (go_at_call 39; refine km.mono ?_; rintro e w1 ⟨rfl, rfl⟩)
  go_ret
  exact ⟨rfl, HH.out⟩
def lenV : Value → Nat
  | .slice _ n _ => n
  | _ => 0
set_option maxHeartbeats 8000000 in
theorem free_any (h : LogAt w0 g d q N S bl W) (l : Int) (j : Nat) (hl : l ≤ S.synced + 1) (hs : 0 ≤ S.synced ∧ S.synced ≤ 1000000) (hf : S.first < l) (hf0 : 0 ≤ S.first) (hm : S.es.length ≤ 1000) (hj : j ≤ S.es.length)
    (h1 : ∀ i x, i < j → S.es[i]? = some x → x.l < l) (h2 : ∀ x, S.es[j]? = some x → l ≤ x.l) (hok : ∀ x ∈ S.es, EnOk x) (hp : 0 ≤ S.pos ∧ S.pos ≤ 6) (hsw : S.written = S.synced) (hN : N ≤ 8000000) :
    Calls Tryz.prog 19 #[.pointer (some ⟨g, 0, none⟩), .int .u64 l] W fun e w' => e = .returned (.int .i64 0) ∧ LogAt w0 g d q (N + 16) { S with es := S.es.drop j, first := l } bl w' := by
  have km := may_any h
  have kl := llist2 h
  have c13 : W.cell? ⟨g, 13, none⟩ = some (.int .u64 S.synced) := h.blk.cell 13
  have c10 : W.cell? ⟨g, 10, none⟩ = some (.int .u64 S.first) := h.blk.cell 10
  have c14 : W.cell? ⟨g, 14, none⟩ = some (.pointer (some ⟨q, 0, none⟩)) := h.blk.cell 14
  have c11 : W.cell? ⟨g, 11, none⟩ = some (.int .i64 S.pos) := h.blk.cell 11
  obtain ⟨m, hmm⟩ : ∃ m, S.es.length = m := ⟨_, rfl⟩
  rw [hmm] at kl hm hj
  have e1 : IntKind.u64.wrap (S.synced + 1) = S.synced + 1 := IntWalk.u64_in _ (by omega)
  have d1 : ¬ S.synced + 1 < l := by omega
  have d2 : ¬ l ≤ S.first := by omega
  have hl2 : 0 < l ∧ l ≤ 18446744073709551615 := by omega
  have HH := Lib.hid h
  have HOK := Lib.hid hok
  have HM := Lib.hid hmm
  have HJ1 := Lib.hid h1
  have HJ2 := Lib.hid h2
  have HPP := Lib.hid hp
  have HSW := Lib.hid hsw
  have HL := Lib.hid hl2
  clear h hok hmm h1 h2 hp hsw hl2 hl hf hf0 hs
  go_enter Tryz.func19, Tryz.ntmps19
  go_upto_region 8 with (go_at_call 39; refine km.mono ?_; rintro e w1 ⟨rfl, rfl⟩)
  have KL := Lib.hid (fun W (h : LogAt w0 g d q N S bl W) => llist2 h)
  rw [HM.out] at KL
  have HD := Lib.hid HH.out.drew
  have p14 : W.drew.cell? ⟨g, 14, none⟩ = some (.pointer (some ⟨q, 0, none⟩)) := c14
  have p11 : W.drew.cell? ⟨g, 11, none⟩ = some (.int .i64 S.pos) := c11
  go_region_held3 (fun W => W.cell? ⟨g, 14, none⟩ = some (.pointer (some ⟨q, 0, none⟩)) ∧ W.cell? ⟨g, 11, none⟩ = some (.int .i64 S.pos)) (go_keep) (first
    | (go_at_call 46; refine (KL.out _ HD.out).mono ?_; rintro e w1 ⟨A, C, bx, rfl, h1, h2, hs, hb⟩; have s0 : w1.cell? ⟨g, 14, none⟩ = some (.pointer (some ⟨q, 0, none⟩)) := hs.blk.cell 14; have s1 : w1.cell? ⟨g, 11, none⟩ = some (.int .i64 S.pos) := hs.blk.cell 11; have H1 := Lib.hid hs; have HSG := Lib.hid hb; clear hs hb))
  clear HD p14 p11 c14 c11 c13 c10 km kl e1 d1 d2 KL
  go_wp2_with fail
  go_loop [6] (fun s => ∃ (k : Nat) (a : Option Addr) (c : Nat), k ≤ j ∧ s = .slice a (m - k) c ∧ Hid (m - k ≤ c ∧ (k < m → Seg w1 W.heap.size TEn 5 a (m - k) c ((S.es.drop k).flatMap RE.val)))) (fun s => lenV s)
  case atStart => exact ⟨0, A, C, by omega, rfl, Lib.hid ⟨h1, fun h => HSG.out w1 (fun b hb => H1.out.side (List.mem_append_left _ hb)) h⟩⟩
  case round =>
    obtain ⟨k, a, c, hk, rfl, HS⟩ := hrel
    by_cases hlt : k < j
    · obtain ⟨b, off, x, rfl, hx, hkc, hbl, x0, x1, x2, x3, x4⟩ := seg_at (HS.out.2 (by omega)) (k := 0) (by omega)
      have hx2 : S.es[k]? = some x := by rw [List.getElem?_drop] at hx; exact hx
      have hlx := HJ1.out k x hlt hx2
      rw [Nat.zero_mul, Nat.add_zero] at x0
      clear x1 x2 x3 x4 hx hx2
      have hc1 : 1 ≤ c := by omega
      go_wp2_with fail
      go_round
      case rel =>
        have hs1 := HS.out.1
        refine ⟨k + 1, _, _, by omega, by rw [show m - (k + 1) = m - k - 1 by omega], Lib.hid ⟨by omega, fun h => ?_⟩⟩
        have hs := (HS.out.2 (by omega)).cut (k := 1) (by omega)
        simp only [Option.map_some, addr_add] at hs
        rw [flat_drop RE.val_len, List.drop_drop] at hs
        rw [show m - (k + 1) = m - k - 1 by omega]
        exact hs
      case measure => simp [lenV]; omega
    · obtain rfl : k = j := by omega
      obtain ⟨n, hn⟩ : ∃ n, m - k = n := ⟨_, rfl⟩
      rw [hn] at HS ⊢
      by_cases hn0 : n = 0
      · subst hn0
        have kh := head_any H1.out l S.pos HL.out (by have := HPP.out; omega) (by omega)
        obtain rfl : k = m := by omega
        have e9 : IntKind.i64.wrap (k : Int) = (k : Int) := IntWalk.i64_in _ (by omega)
        clear hn
        go_upto_region 16 with (go_at_call 38; refine kh.mono ?_; rintro e w2 ⟨rfl, ho⟩; have c14 : w2.cell? ⟨g, 14, none⟩ = some (.pointer (some ⟨q, 0, none⟩)) := ho.blk.cell 14; have H2 := Lib.hid ho; clear ho kh)
        have e3 := e9
        have kn : Calls Tryz.prog 51 #[.pointer (some ⟨q, 0, none⟩)] w2.drew fun e w' => e = .returned (.int .i64 (k : Int)) ∧ w' = w2.drew := by
          have := llen H2.out.drew
          rw [HM.out] at this
          exact this.mono fun _ _ ⟨a, b⟩ => ⟨a, b.symm⟩
        refine wp_region_still_tail 12 (by kernel_rfl) (by kernel_rfl) ?_
        simp only [List.take_succ_cons, List.take_zero, List.drop_succ_cons, List.drop_zero]
        repeat (first | still_step | still_call (by (go_at_call 51); exact kn))
        try refine wpStill_nil ?_
        have kd := ldrop H2.out.drew k (by rw [HM.out]; omega)
        clear c14 kn e3
        go_upto_region 17 with (go_at_call 50; refine kd.mono ?_; rintro e w3 ⟨rfl, ho⟩; have H3 := Lib.hid ho; clear ho kd)
        have h3 := H3.out.drew
        have h4 := h3.set (S' := { S with es := S.es.drop k, first := l }) 10 (.int .u64 l) rfl rfl
        have h5 := h4.set (S' := { S with es := S.es.drop k, first := l }) 13 (.int .u64 S.synced) rfl rfl
        have c10 : w3.cell? ⟨g, 10, none⟩ = some (.int .u64 S.first) := H3.out.blk.cell 10
        have c12 : w3.cell? ⟨g, 12, none⟩ = some (.int .u64 S.synced) := HSW.out ▸ H3.out.blk.cell 12
        have c13 : w3.cell? ⟨g, 13, none⟩ = some (.int .u64 S.synced) := H3.out.blk.cell 13
        have f10 := H3.out.blk.frozen 10
        have f13 := H3.out.blk.frozen 13
        have r10 : w3.drew.cell? ⟨g, 10, none⟩ = some (.int .u64 S.first) := h3.blk.cell 10
        have r13 : w3.drew.cell? ⟨g, 13, none⟩ = some (.int .u64 S.synced) := h3.blk.cell 13
        have g10 : w3.drew.frozen? ⟨g, 10, none⟩ = false := h3.blk.frozen 10
        have g13 : w3.drew.frozen? ⟨g, 13, none⟩ = false := h3.blk.frozen 13
        have s13 : (w3.drew.setCell ⟨g, 10, none⟩ (.int .u64 l)).cell? ⟨g, 13, none⟩ = some (.int .u64 S.synced) := h4.blk.cell 13
        have t13 : (w3.drew.setCell ⟨g, 10, none⟩ (.int .u64 l)).frozen? ⟨g, 13, none⟩ = false := h4.blk.frozen 13
        have H5 := Lib.hid (h5.less (bl' := bl) (fun b hb => List.mem_append_right _ hb))
        clear h3 h4 h5
        go_region_law (fail)
        all_goals
          go_wp2_with fail
          go_ret
          exact ⟨rfl, H5.out⟩
      · have hk2 : k < m := by omega
        obtain ⟨b, off, x, rfl, hx, hkc, hbl, x0, x1, x2, x3, x4⟩ := seg_at (HS.out.2 hk2) (k := 0) (by omega)
        have hx2 : S.es[k]? = some x := by rw [List.getElem?_drop] at hx; exact hx
        have hlx := HJ2.out x hx2
        have hxp := (HOK.out x (List.mem_of_getElem? hx2)).p
        have hnl : ¬ x.l < l := by omega
        have hn1 : 0 < n := by omega
        rw [Nat.zero_mul, Nat.add_zero] at x0 x1
        clear x2 x3 x4 hx hx2 hlx
        have kh := head_any H1.out l x.p HL.out (by omega) (by omega)
        have hmk : (m : Int) - (n : Int) = (k : Int) := by omega
        have HMK := Lib.hid hmk
        clear hmk hn hxp
        go_upto_region 16 with (go_at_call 38; refine kh.mono ?_; rintro e w2 ⟨rfl, ho⟩; have c14 : w2.cell? ⟨g, 14, none⟩ = some (.pointer (some ⟨q, 0, none⟩)) := ho.blk.cell 14; have H2 := Lib.hid ho; clear ho kh)
        have e3 : IntKind.i64.wrap ((m : Int) - (n : Int)) = (k : Int) := by rw [HMK.out]; exact IntWalk.i64_in _ (by omega)
        have kn : Calls Tryz.prog 51 #[.pointer (some ⟨q, 0, none⟩)] w2.drew fun e w' => e = .returned (.int .i64 (m : Int)) ∧ w' = w2.drew := by
          have := llen H2.out.drew
          rw [HM.out] at this
          exact this.mono fun _ _ ⟨a, b⟩ => ⟨a, b.symm⟩
        refine wp_region_still_tail 12 (by kernel_rfl) (by kernel_rfl) ?_
        simp only [List.take_succ_cons, List.take_zero, List.drop_succ_cons, List.drop_zero]
        repeat (first | still_step | still_call (by (go_at_call 51); exact kn))
        try refine wpStill_nil ?_
        have kd := ldrop H2.out.drew k (by rw [HM.out]; omega)
        clear c14 kn e3
        go_upto_region 17 with (go_at_call 50; refine kd.mono ?_; rintro e w3 ⟨rfl, ho⟩; have H3 := Lib.hid ho; clear ho kd)
        have h3 := H3.out.drew
        have h4 := h3.set (S' := { S with es := S.es.drop k, first := l }) 10 (.int .u64 l) rfl rfl
        have h5 := h4.set (S' := { S with es := S.es.drop k, first := l }) 13 (.int .u64 S.synced) rfl rfl
        have c10 : w3.cell? ⟨g, 10, none⟩ = some (.int .u64 S.first) := H3.out.blk.cell 10
        have c12 : w3.cell? ⟨g, 12, none⟩ = some (.int .u64 S.synced) := HSW.out ▸ H3.out.blk.cell 12
        have c13 : w3.cell? ⟨g, 13, none⟩ = some (.int .u64 S.synced) := H3.out.blk.cell 13
        have f10 := H3.out.blk.frozen 10
        have f13 := H3.out.blk.frozen 13
        have r10 : w3.drew.cell? ⟨g, 10, none⟩ = some (.int .u64 S.first) := h3.blk.cell 10
        have r13 : w3.drew.cell? ⟨g, 13, none⟩ = some (.int .u64 S.synced) := h3.blk.cell 13
        have g10 : w3.drew.frozen? ⟨g, 10, none⟩ = false := h3.blk.frozen 10
        have g13 : w3.drew.frozen? ⟨g, 13, none⟩ = false := h3.blk.frozen 13
        have s13 : (w3.drew.setCell ⟨g, 10, none⟩ (.int .u64 l)).cell? ⟨g, 13, none⟩ = some (.int .u64 S.synced) := h4.blk.cell 13
        have t13 : (w3.drew.setCell ⟨g, 10, none⟩ (.int .u64 l)).frozen? ⟨g, 13, none⟩ = false := h4.blk.frozen 13
        have H5 := Lib.hid (h5.less (bl' := bl) (fun b hb => List.mem_append_right _ hb))
        clear h3 h4 h5
        go_region_law (fail)
        all_goals
          go_wp2_with fail
          go_ret
          exact ⟨rfl, H5.out⟩
end
end Go.Proofs.YtakilnpfhljgfaaGreat.WL

/- wlog: Add. No condition. -/
namespace Go.Proofs.YtakilnpfhljgfaaGreat.WL
set_option maxRecDepth 100000
open Go.RowKit Go.Proofs.YtakilnpfhljgfaaGreat.MI Go.Proofs.YtakilnpfhljgfaaGreat.WI Go.Proofs.YtakilnpfhljgfaaGreat.SM Go.Proofs.YtakilnpfhljgfaaGreat.DK Go.Proofs.YtakilnpfhljgfaaGreat.SU Go.Proofs.YtakilnpfhljgfaaGreat.BK
set_option linter.unusedVariables false
set_option linter.unusedSimpArgs false

/-- A slice of one entry, in a new block. -/
def RowAt (s : Nat) (cs : Array Value) (v : Value) (w : World) : Prop := ∃ x, v = .slice (some ⟨x, 0, none⟩) 1 1 ∧ Blk w x TEn cs ∧ s ≤ x
theorem stab_row (s : Nat) (cs : Array Value) : Stab (fun v w => RowAt s cs v w) := fun v w w' hb h => by
  obtain ⟨x, e, hx, hs⟩ := h
  exact ⟨x, e, hx.keeps (Keeps.of_below hb (fun _ => False)) id, hs⟩
section
variable {w0 W W' : World} {g d q N : Nat} {S : Lg} {bl : List (Nat × TypeId × Array Value)}
set_option maxHeartbeats 4000000 in
theorem add_bad (h : LogAt w0 g d q N S bl W) (A : Option Addr) (n c : Nat) (xs : List RC.Im) (hI : RC.Ims W A n c xs) (hw : RC.wrongE 9 S.next xs ≠ 0) :
    Calls Tryz.prog 10 #[.pointer (some ⟨g, 0, none⟩), .slice A n c] W fun e w' => e = .returned (.tuple #[.int .u64 0, .int .i64 (RC.wrongE 9 S.next xs)]) ∧ LogAt w0 g d q N S bl w' := by
  have KP := Lib.hid (RC.put_bad 9 S.next A n c xs W.drew (hI.old (belowDrew (belowSame _))) hw)
  obtain ⟨E, hE⟩ : ∃ E, RC.wrongE 9 S.next xs = E := ⟨_, rfl⟩
  rw [hE] at KP hw ⊢
  have n1 : (E != 0) = true := by simpa using hw
  have km := may_any h
  have c7 : W.cell? ⟨g, 7, none⟩ = some (.int .u64 9) := h.blk.cell 7
  have c9 : W.cell? ⟨g, 9, none⟩ = some (.int .u64 S.next) := h.blk.cell 9
  have p7 : W.drew.cell? ⟨g, 7, none⟩ = some (.int .u64 9) := c7
  have p9 : W.drew.cell? ⟨g, 9, none⟩ = some (.int .u64 S.next) := c9
  have HD := Lib.hid h.drew
  clear h hI hE hw c7 c9
  go_enter Tryz.func10, Tryz.ntmps10
  go_upto_region 4 with (go_at_call 39; refine km.mono ?_; rintro e w1 ⟨rfl, rfl⟩)
  go_region_held3 (fun W => W.cell? ⟨g, 7, none⟩ = some (.int .u64 9) ∧ W.cell? ⟨g, 9, none⟩ = some (.int .u64 S.next)) (go_keep) (first
    | (go_at_call 40; refine KP.out.mono ?_; rintro e w1 ⟨rfl, hb⟩; have h1 := HD.out.then_ hb; have s0 : w1.cell? ⟨g, 7, none⟩ = some (.int .u64 9) := h1.blk.cell 7; have s1 : w1.cell? ⟨g, 9, none⟩ = some (.int .u64 S.next) := h1.blk.cell 9; have H1 := Lib.hid h1; clear hb h1))
  clear p7 p9
  go_wp2_with fail
  go_ret2
  exact ⟨rfl, H1.out⟩
set_option maxHeartbeats 4000000 in
theorem add_big (h : LogAt w0 g d q N S bl W) (A : Option Addr) (n c : Nat) (xs : List RC.Im) (hI : RC.Ims W A n c xs) (hf : RC.Fits 9 S.next xs) (hnx : 0 < S.next ∧ S.next ≤ 1000000) (hn : 2 ≤ n) :
    Calls Tryz.prog 10 #[.pointer (some ⟨g, 0, none⟩), .slice A n c] W fun e w' => e = .returned (.tuple #[.int .u64 0, .int .i64 31]) ∧ LogAt w0 g d q N S bl w' := by
  have KP := Lib.hid (RC.put_ok 9 S.next A n c xs W.drew (hI.old (belowDrew (belowSame _))) hf (by decide) (by omega))
  have hln := hI.2.2.1
  have hfn := hf.n1
  have hcm : c ≤ maxLen := hI.2.1
  have hnc : n ≤ c := hI.1
  unfold maxLen at hcm
  have kmo := fun W => RC.most_any 8 (by decide) W
  rw [most8] at kmo
  generalize RC.putT 9 S.next xs = T at KP
  have hd : (1 : Int) < (n : Int) := by omega
  have km := may_any h
  have c7 : W.cell? ⟨g, 7, none⟩ = some (.int .u64 9) := h.blk.cell 7
  have c9 : W.cell? ⟨g, 9, none⟩ = some (.int .u64 S.next) := h.blk.cell 9
  have p7 : W.drew.cell? ⟨g, 7, none⟩ = some (.int .u64 9) := c7
  have p9 : W.drew.cell? ⟨g, 9, none⟩ = some (.int .u64 S.next) := c9
  have HD := Lib.hid h.drew
  clear h hI hf hln c7 c9
  go_enter Tryz.func10, Tryz.ntmps10
  go_upto_region 4 with (go_at_call 39; refine km.mono ?_; rintro e w1 ⟨rfl, rfl⟩)
  go_region_held3 (fun W => W.cell? ⟨g, 7, none⟩ = some (.int .u64 9) ∧ W.cell? ⟨g, 9, none⟩ = some (.int .u64 S.next)) (go_keep) (first
    | (go_at_call 40; refine KP.out.mono ?_; rintro e w1 ⟨rfl, hb⟩; have h1 := HD.out.then_ hb; have s0 : w1.cell? ⟨g, 7, none⟩ = some (.int .u64 9) := h1.blk.cell 7; have s1 : w1.cell? ⟨g, 9, none⟩ = some (.int .u64 S.next) := h1.blk.cell 9; have H1 := Lib.hid h1; clear hb h1))
  clear p7 p9
  have c3 : w1.cell? ⟨g, 3, none⟩ = some (.int .i64 8) := H1.out.blk.cell 3
  go_wp2_with (go_at_call 41; refine (kmo _).mono ?_; rintro e w2 ⟨rfl, hb⟩; have H2 := Lib.hid (H1.out.then_ hb); clear hb kmo)
  go_ret2
  exact ⟨rfl, H2.out⟩
set_option maxHeartbeats 4000000 in
theorem add_full (h : LogAt w0 g d q N S bl W) (A : Option Addr) (c : Nat) (xs : List RC.Im) (hI : RC.Ims W A 1 c xs) (hf : RC.Fits 9 S.next xs) (hnx : 0 < S.next ∧ S.next ≤ 1000000) (hok : ∀ x ∈ S.es, x.n = 3) (hm : S.es.length ≤ 1000) (hfull : 2 ≤ S.es.length) :
    Calls Tryz.prog 10 #[.pointer (some ⟨g, 0, none⟩), .slice A 1 c] W fun e w' => e = .returned (.tuple #[.int .u64 0, .int .i64 10]) ∧ LogAt w0 g d q N S bl w' := by
  have KP := Lib.hid (RC.put_ok 9 S.next A 1 c xs W.drew (hI.old (belowDrew (belowSame _))) hf (by decide) (by omega))
  have hln := hI.2.2.1
  have hfn := hf.n1
  have hcm : c ≤ maxLen := hI.2.1
  have hnc : 1 ≤ c := hI.1
  unfold maxLen at hcm
  have kmo := fun W => RC.most_any 8 (by decide) W
  rw [most8] at kmo
  generalize RC.putT 9 S.next xs = T at KP
  have kft := fun W (h : LogAt w0 g d q N S bl W) => fits_any h hok (by omega) 1
  have hz : (decide ((1 : Int) = 1) && decide (S.es.length ≤ 1)) = false := by simp; omega
  rw [hz] at kft
  have km := may_any h
  have c7 : W.cell? ⟨g, 7, none⟩ = some (.int .u64 9) := h.blk.cell 7
  have c9 : W.cell? ⟨g, 9, none⟩ = some (.int .u64 S.next) := h.blk.cell 9
  have p7 : W.drew.cell? ⟨g, 7, none⟩ = some (.int .u64 9) := c7
  have p9 : W.drew.cell? ⟨g, 9, none⟩ = some (.int .u64 S.next) := c9
  have HD := Lib.hid h.drew
  clear h hI hf hln c7 c9 hz
  go_enter Tryz.func10, Tryz.ntmps10
  go_upto_region 4 with (go_at_call 39; refine km.mono ?_; rintro e w1 ⟨rfl, rfl⟩)
  go_region_held3 (fun W => W.cell? ⟨g, 7, none⟩ = some (.int .u64 9) ∧ W.cell? ⟨g, 9, none⟩ = some (.int .u64 S.next)) (go_keep) (first
    | (go_at_call 40; refine KP.out.mono ?_; rintro e w1 ⟨rfl, hb⟩; have h1 := HD.out.then_ hb; have s0 : w1.cell? ⟨g, 7, none⟩ = some (.int .u64 9) := h1.blk.cell 7; have s1 : w1.cell? ⟨g, 9, none⟩ = some (.int .u64 S.next) := h1.blk.cell 9; have H1 := Lib.hid h1; clear hb h1))
  clear p7 p9
  have c3 : w1.cell? ⟨g, 3, none⟩ = some (.int .i64 8) := H1.out.blk.cell 3
  go_wp2_with (first | (go_at_call 41; refine (kmo _).mono ?_; rintro e w2 ⟨rfl, hb⟩; have H2 := Lib.hid (H1.out.then_ hb); clear hb kmo) | (go_at_call 17; refine (kft _ H2.out).mono ?_; rintro e w3 ⟨rfl, hb⟩; have H3 := Lib.hid (H2.out.then_ hb); clear hb kft))
  go_ret2
  exact ⟨rfl, H3.out⟩
set_option maxHeartbeats 8000000 in
theorem add_ok (h : LogAt w0 g d q N S bl W) (A : Option Addr) (c : Nat) (xs : List RC.Im) (hI : RC.Ims W A 1 c xs) (hf : RC.Fits 9 S.next xs) (hnx : 0 < S.next ∧ S.next ≤ 1000000) (hok : ∀ x ∈ S.es, x.n = 3) (hm : S.es.length ≤ 1) (hp : 0 ≤ S.pos ∧ S.pos ≤ 6) :
    Calls Tryz.prog 10 #[.pointer (some ⟨g, 0, none⟩), .slice A 1 c] W fun e w' => e = .returned (.tuple #[.int .u64 S.next, .int .i64 0]) ∧ LogAt w0 g d q N { S with es := S.es ++ [⟨S.next, S.pos, 3, RC.putT 9 S.next xs, false⟩], pos := (S.pos + 3).tmod 7, next := S.next + 1 } bl w' := by
  have KP := Lib.hid (RC.put_ok 9 S.next A 1 c xs W.drew (hI.old (belowDrew (belowSame _))) hf (by decide) (by omega))
  have hln := hI.2.2.1
  have hfn := hf.n1
  have hcm : c ≤ maxLen := hI.2.1
  have hnc : 1 ≤ c := hI.1
  unfold maxLen at hcm
  have kmo := fun W => RC.most_any 8 (by decide) W
  rw [most8] at kmo
  generalize RC.putT 9 S.next xs = T at KP ⊢
  have kft := fun W (h : LogAt w0 g d q N S bl W) => fits_any h hok (by omega) 1
  have hz : (decide ((1 : Int) = 1) && decide (S.es.length ≤ 1)) = true := by simp; omega
  rw [hz] at kft
  have ks := fun W => RC.sectors_any 1 W
  rw [secs1] at ks
  have km := may_any h
  have c7 : W.cell? ⟨g, 7, none⟩ = some (.int .u64 9) := h.blk.cell 7
  have c9 : W.cell? ⟨g, 9, none⟩ = some (.int .u64 S.next) := h.blk.cell 9
  have p7 : W.drew.cell? ⟨g, 7, none⟩ = some (.int .u64 9) := c7
  have p9 : W.drew.cell? ⟨g, 9, none⟩ = some (.int .u64 S.next) := c9
  have HD := Lib.hid h.drew
  clear h hI hf hln c7 c9 hz
  go_enter Tryz.func10, Tryz.ntmps10
  go_upto_region 4 with (go_at_call 39; refine km.mono ?_; rintro e w1 ⟨rfl, rfl⟩)
  go_region_held3 (fun W => W.cell? ⟨g, 7, none⟩ = some (.int .u64 9) ∧ W.cell? ⟨g, 9, none⟩ = some (.int .u64 S.next)) (go_keep) (first
    | (go_at_call 40; refine KP.out.mono ?_; rintro e w1 ⟨rfl, hb⟩; have h1 := HD.out.then_ hb; have s0 : w1.cell? ⟨g, 7, none⟩ = some (.int .u64 9) := h1.blk.cell 7; have s1 : w1.cell? ⟨g, 9, none⟩ = some (.int .u64 S.next) := h1.blk.cell 9; have H1 := Lib.hid h1; clear hb h1))
  clear p7 p9
  have c3 : w1.cell? ⟨g, 3, none⟩ = some (.int .i64 8) := H1.out.blk.cell 3
  go_upto_region 11 with (first | (go_at_call 41; refine (kmo _).mono ?_; rintro e w2 ⟨rfl, hb⟩; have H2 := Lib.hid (H1.out.then_ hb); clear hb kmo) | (go_at_call 17; refine (kft _ H2.out).mono ?_; rintro e w3 ⟨rfl, hb⟩; have H3 := Lib.hid (H2.out.then_ hb); clear hb kft))
  clear c3 H1 H2
  have ks2 : ∀ W, Calls Tryz.prog 42 #[.int .i64 1] W fun e w' => e = .returned (.int .i64 3) ∧ W = w' := fun W => (ks W).mono fun _ _ ⟨a, b⟩ => ⟨a, b.symm⟩
  have KS := Lib.hid ks2
  have C9 : Hid (w3.cell? ⟨g, 9, none⟩ = some (.int .u64 S.next)) := Lib.hid (H3.out.blk.cell 9)
  have C11 : Hid (w3.cell? ⟨g, 11, none⟩ = some (.int .i64 S.pos)) := Lib.hid (H3.out.blk.cell 11)
  have HLT : Hid (g < w3.heap.size) := Lib.hid H3.out.blk.lt
  have hst := stab_ptr w3.heap.size TEn #[.int .u64 0, .int .i64 0, .int .i64 0, .string (ByteArray.mk #[]), .bool false]
  clear ks ks2
  refine wp_region_tail 14 (fun i' v' w' => ([(fun v' _ => v' = (.pointer (some ⟨g, 0, none⟩))), (fun v' _ => v' = (.pointer (some ⟨g, 0, none⟩))), (fun v' _ => v' = (.pointer (some ⟨g, 9, none⟩))), (fun v' _ => v' = (.int .u64 S.next)), (fun v' _ => v' = (.pointer (some ⟨g, 0, none⟩))), (fun v' _ => v' = (.pointer (some ⟨g, 0, none⟩))), (fun v' _ => v' = (.pointer (some ⟨g, 11, none⟩))), (fun v' _ => v' = (.int .i64 S.pos)), (fun v' _ => v' = (.slice A 1 c)), (fun v' _ => v' = (.int .i64 1)), (fun v' _ => v' = (.int .i64 3)), (fun v' _ => v' = (.string T)), (fun v' _ => v' = (.agg #[.int .u64 S.next, .int .i64 S.pos, .int .i64 3, .string T, .bool false])), (fun v' w' => PtrAt w3.heap.size TEn #[.int .u64 0, .int .i64 0, .int .i64 0, .string (ByteArray.mk #[]), .bool false] v' w')] : List (Value → World → Prop)).getD i' (fun _ _ => True) v' w') (by kernel_rfl) (by rfl) (by rfl) (by kernel_rfl) (by kernel_rfl) (stab_list (by
      repeat (first | exact allStab_nil | refine allStab_cons (stab_eq _) ?_ | refine allStab_cons (stab_slice _ _) ?_ | (refine allStab_cons ?_ ?_; (with_reducible assumption))))) ?_ ?_
  · simp only [List.take_succ_cons, List.take_zero]
    refine steps_cons rfl ?_ ?_
    · intro a w hR K hK
      have e0 : a.tmps.getD 0 undef = (.pointer (some ⟨g, 0, none⟩)) := hR.old 0 (by kernel_rfl) rfl
      rw [if_pos (wanted_none rfl)]
      have hB := hR.bel
      clear hR
      go_simp
      exact hK _ _ (belowSame _) rfl
    refine steps_cons rfl ?_ ?_
    · intro a w hR K hK
      obtain ⟨v50, e50, _, q50⟩ := hR.val 0 50 (by kernel_rfl) (by kernel_rfl)
      obtain rfl : v50 = (.pointer (some ⟨g, 0, none⟩)) := q50
      rw [if_pos (wanted_none rfl)]
      have hB := hR.bel
      clear hR
      go_simp
      exact hK _ _ (belowSame _) rfl
    refine steps_cons rfl ?_ ?_
    · intro a w hR K hK
      obtain ⟨v51, e51, _, q51⟩ := hR.val 1 51 (by kernel_rfl) (by kernel_rfl)
      obtain rfl : v51 = (.pointer (some ⟨g, 0, none⟩)) := q51
      rw [if_pos (wanted_none rfl)]
      have hB := hR.bel
      clear hR
      go_simp
      exact hK _ _ (belowSame _) rfl
    refine steps_cons rfl ?_ ?_
    · intro a w hR K hK
      obtain ⟨v52, e52, _, q52⟩ := hR.val 2 52 (by kernel_rfl) (by kernel_rfl)
      obtain rfl : v52 = (.pointer (some ⟨g, 9, none⟩)) := q52
      rw [if_pos (wanted_none rfl)]
      have hc := (hR.bel.cell (p := ⟨g, 9, none⟩) HLT.out).trans C9.out
      clear hR
      go_simp
      exact hK _ _ (belowSame _) rfl
    refine steps_cons rfl ?_ ?_
    · intro a w hR K hK
      have e0 : a.tmps.getD 0 undef = (.pointer (some ⟨g, 0, none⟩)) := hR.old 0 (by kernel_rfl) rfl
      rw [if_pos (wanted_none rfl)]
      have hB := hR.bel
      clear hR
      go_simp
      exact hK _ _ (belowSame _) rfl
    refine steps_cons rfl ?_ ?_
    · intro a w hR K hK
      obtain ⟨v54, e54, _, q54⟩ := hR.val 4 54 (by kernel_rfl) (by kernel_rfl)
      obtain rfl : v54 = (.pointer (some ⟨g, 0, none⟩)) := q54
      rw [if_pos (wanted_none rfl)]
      have hB := hR.bel
      clear hR
      go_simp
      exact hK _ _ (belowSame _) rfl
    refine steps_cons rfl ?_ ?_
    · intro a w hR K hK
      obtain ⟨v55, e55, _, q55⟩ := hR.val 5 55 (by kernel_rfl) (by kernel_rfl)
      obtain rfl : v55 = (.pointer (some ⟨g, 0, none⟩)) := q55
      rw [if_pos (wanted_none rfl)]
      have hB := hR.bel
      clear hR
      go_simp
      exact hK _ _ (belowSame _) rfl
    refine steps_cons rfl ?_ ?_
    · intro a w hR K hK
      obtain ⟨v56, e56, _, q56⟩ := hR.val 6 56 (by kernel_rfl) (by kernel_rfl)
      obtain rfl : v56 = (.pointer (some ⟨g, 11, none⟩)) := q56
      rw [if_pos (wanted_none rfl)]
      have hc := (hR.bel.cell (p := ⟨g, 11, none⟩) HLT.out).trans C11.out
      clear hR
      go_simp
      exact hK _ _ (belowSame _) rfl
    refine steps_cons rfl ?_ ?_
    · intro a w hR K hK
      have e1 : a.tmps.getD 1 undef = (.slice A 1 c) := hR.old 1 (by kernel_rfl) rfl
      rw [if_pos (wanted_none rfl)]
      have hB := hR.bel
      clear hR
      go_simp
      exact hK _ _ (belowSame _) rfl
    refine steps_cons rfl ?_ ?_
    · intro a w hR K hK
      obtain ⟨v58, e58, _, q58⟩ := hR.val 8 58 (by kernel_rfl) (by kernel_rfl)
      obtain rfl : v58 = (.slice A 1 c) := q58
      rw [if_pos (wanted_none rfl)]
      have hB := hR.bel
      clear hR
      go_simp
      exact hK _ _ (belowSame _) rfl
    refine steps_cons rfl ?_ ?_
    · intro a w hR K hK
      obtain ⟨v59, e59, _, q59⟩ := hR.val 9 59 (by kernel_rfl) (by kernel_rfl)
      obtain rfl : v59 = (.int .i64 1) := q59
      rw [if_pos (wanted_none rfl)]
      have hB := hR.bel
      clear hR
      go_simp
      refine (KS.out _).mono ?_
      rintro e w' ⟨rfl, hw⟩
      exact hK _ _ (by first | exact belowOfEq hw | exact hw) rfl
    refine steps_cons rfl ?_ ?_
    · intro a w hR K hK
      have e7 : a.tmps.getD 7 undef = (.string T) := hR.old 7 (by kernel_rfl) rfl
      rw [if_pos (wanted_none rfl)]
      have hB := hR.bel
      clear hR
      go_simp
      exact hK _ _ (belowSame _) rfl
    refine steps_cons rfl ?_ ?_
    · intro a w hR K hK
      obtain ⟨v53, e53, _, q53⟩ := hR.val 3 53 (by kernel_rfl) (by kernel_rfl)
      obtain rfl : v53 = (.int .u64 S.next) := q53
      obtain ⟨v57, e57, _, q57⟩ := hR.val 7 57 (by kernel_rfl) (by kernel_rfl)
      obtain rfl : v57 = (.int .i64 S.pos) := q57
      obtain ⟨v60, e60, _, q60⟩ := hR.val 10 60 (by kernel_rfl) (by kernel_rfl)
      obtain rfl : v60 = (.int .i64 3) := q60
      obtain ⟨v61, e61, _, q61⟩ := hR.val 11 61 (by kernel_rfl) (by kernel_rfl)
      obtain rfl : v61 = (.string T) := q61
      rw [if_pos (wanted_none rfl)]
      have hB := hR.bel
      clear hR
      go_simp
      exact hK _ _ (belowSame _) rfl
    refine steps_cons rfl ?_ ?_
    · intro a w hR K hK
      rw [if_pos (wanted_none rfl)]
      have hs := hR.bel.size
      clear hR
      go_simp
      exact hK _ _ (belowNew (belowSame _) _) ⟨_, rfl, Blk.new _ _ _, hs⟩
    exact steps_nil
  · intro a w' hR K hK
    obtain ⟨v9, e9, _, q9⟩ := hR.val 13 9 (by decide) (by kernel_rfl)
    obtain ⟨v62, e62, _, q62⟩ := hR.val 12 62 (by decide) (by kernel_rfl)
    obtain rfl : v62 = (.agg #[.int .u64 S.next, .int .i64 S.pos, .int .i64 3, .string T, .bool false]) := q62
    rw [if_pos (wanted_none rfl)]
    obtain ⟨x9, rfl, b9, hx9⟩ := q9
    have f0 := b9.frozen 0
    have f1 := b9.frozen 1
    have f2 := b9.frozen 2
    have f3 := b9.frozen 3
    have f4 := b9.frozen 4
    have d0 := b9.cell 0
    have d1 := b9.cell 1
    have d2 := b9.cell 2
    have d3 := b9.cell 3
    have d4 := b9.cell 4
    have hB := belowUndrew hR.bel
    have hf := hR.frame
    rw [show dsts _ = [50, 51, 52, 53, 54, 55, 56, 57, 58, 59, 60, 61, 62, 9] from by kernel_rfl] at hf
    obtain ⟨z50, h50⟩ : ∃ z, a.tmps.getD 50 undef = z := ⟨_, rfl⟩
    obtain ⟨z51, h51⟩ : ∃ z, a.tmps.getD 51 undef = z := ⟨_, rfl⟩
    obtain ⟨z52, h52⟩ : ∃ z, a.tmps.getD 52 undef = z := ⟨_, rfl⟩
    obtain ⟨z53, h53⟩ : ∃ z, a.tmps.getD 53 undef = z := ⟨_, rfl⟩
    obtain ⟨z54, h54⟩ : ∃ z, a.tmps.getD 54 undef = z := ⟨_, rfl⟩
    obtain ⟨z55, h55⟩ : ∃ z, a.tmps.getD 55 undef = z := ⟨_, rfl⟩
    obtain ⟨z56, h56⟩ : ∃ z, a.tmps.getD 56 undef = z := ⟨_, rfl⟩
    obtain ⟨z57, h57⟩ : ∃ z, a.tmps.getD 57 undef = z := ⟨_, rfl⟩
    obtain ⟨z58, h58⟩ : ∃ z, a.tmps.getD 58 undef = z := ⟨_, rfl⟩
    obtain ⟨z59, h59⟩ : ∃ z, a.tmps.getD 59 undef = z := ⟨_, rfl⟩
    obtain ⟨z60, h60⟩ : ∃ z, a.tmps.getD 60 undef = z := ⟨_, rfl⟩
    obtain ⟨z61, h61⟩ : ∃ z, a.tmps.getD 61 undef = z := ⟨_, rfl⟩
    simp only [List.foldl_cons, List.foldl_nil, h50, h51, h52, h53, h54, h55, h56, h57, h58, h59, h60, h61, e9, e62] at hf
    simp only [List.setIfInBounds_toArray, List.set_cons_zero, List.set_cons_succ] at hf
    clear hR h50 h51 h52 h53 h54 h55 h56 h57 h58 h59 h60 h61
    go_simp
    refine hK _ _ ?_
    clear hK K e9 e62
    subst hf
    have hB2 : Below w3.heap.size w3 (((((w'.setCell ⟨x9, 0, none⟩ (.int .u64 S.next)).setCell ⟨x9, 1, none⟩ (.int .i64 S.pos)).setCell ⟨x9, 2, none⟩ (.int .i64 3)).setCell ⟨x9, 3, none⟩ (.string T)).setCell ⟨x9, 4, none⟩ (.bool false)) := (((((hB.setCell (p := ⟨x9, 0, none⟩) hx9 _).setCell (p := ⟨x9, 1, none⟩) hx9 _).setCell (p := ⟨x9, 2, none⟩) hx9 _).setCell (p := ⟨x9, 3, none⟩) hx9 _).setCell (p := ⟨x9, 4, none⟩) hx9 _)
    have hbx : Blk (((((w'.setCell ⟨x9, 0, none⟩ (.int .u64 S.next)).setCell ⟨x9, 1, none⟩ (.int .i64 S.pos)).setCell ⟨x9, 2, none⟩ (.int .i64 3)).setCell ⟨x9, 3, none⟩ (.string T)).setCell ⟨x9, 4, none⟩ (.bool false)) x9 TEn #[.int .u64 S.next, .int .i64 S.pos, .int .i64 3, .string T, .bool false] := (((((b9.set_ 0 _).set_ 1 _).set_ 2 _).set_ 3 _).set_ 4 _)
    clear hB b9 f0 f1 f2 f3 f4 d0 d1 d2 d3 d4
    generalize ((((w'.setCell ⟨x9, 0, none⟩ (.int .u64 S.next)).setCell ⟨x9, 1, none⟩ (.int .i64 S.pos)).setCell ⟨x9, 2, none⟩ (.int .i64 3)).setCell ⟨x9, 3, none⟩ (.string T)).setCell ⟨x9, 4, none⟩ (.bool false) = w5 at hB2 hbx ⊢
    have h5 := H3.out.side_new hB2 hbx hx9
    have HB5 := Lib.hid h5
    have HLT2 : Hid (g < w5.heap.size) := Lib.hid h5.blk.lt
    have HLX : Hid (x9 < w5.heap.size) := Lib.hid hbx.lt
    have C14 : Hid (w5.cell? ⟨g, 14, none⟩ = some (.pointer (some ⟨q, 0, none⟩))) := Lib.hid (h5.blk.cell 14)
    have X0 : Hid (w5.cell? ⟨x9, 0, none⟩ = some (.int .u64 S.next)) := Lib.hid (hbx.cell 0)
    have X1 : Hid (w5.cell? ⟨x9, 1, none⟩ = some (.int .i64 S.pos)) := Lib.hid (hbx.cell 1)
    have X2 : Hid (w5.cell? ⟨x9, 2, none⟩ = some (.int .i64 3)) := Lib.hid (hbx.cell 2)
    have X3 : Hid (w5.cell? ⟨x9, 3, none⟩ = some (.string T)) := Lib.hid (hbx.cell 3)
    have X4 : Hid (w5.cell? ⟨x9, 4, none⟩ = some (.bool false)) := Lib.hid (hbx.cell 4)
    clear hbx hB2 hst h5
    have hst := stab_row w5.heap.size #[.int .u64 S.next, .int .i64 S.pos, .int .i64 3, .string T, .bool false]
    go_wp2_with fail
    refine wp_region_tail 6 (fun i' v' w' => ([(fun v' _ => v' = (.pointer (some ⟨g, 0, none⟩))), (fun v' _ => v' = (.pointer (some ⟨g, 0, none⟩))), (fun v' _ => v' = (.pointer (some ⟨g, 14, none⟩))), (fun v' _ => v' = (.pointer (some ⟨q, 0, none⟩))), (fun v' _ => v' = (.agg #[.int .u64 S.next, .int .i64 S.pos, .int .i64 3, .string T, .bool false])), (fun v' w' => RowAt w5.heap.size #[.int .u64 S.next, .int .i64 S.pos, .int .i64 3, .string T, .bool false] v' w')] : List (Value → World → Prop)).getD i' (fun _ _ => True) v' w') (by kernel_rfl) (by rfl) (by rfl) (by kernel_rfl) (by kernel_rfl) (stab_list (by
        repeat (first | exact allStab_nil | refine allStab_cons (stab_eq _) ?_ | refine allStab_cons (stab_slice _ _) ?_ | (refine allStab_cons ?_ ?_; (with_reducible assumption))))) ?_ ?_
    · simp only [List.take_succ_cons, List.take_zero]
      refine steps_cons rfl ?_ ?_
      · intro a w hR K hK
        have e0 : a.tmps.getD 0 undef = (.pointer (some ⟨g, 0, none⟩)) := hR.old 0 (by kernel_rfl) rfl
        rw [if_pos (wanted_none rfl)]
        have hB := hR.bel
        clear hR
        go_simp
        exact hK _ _ (belowSame _) rfl
      refine steps_cons rfl ?_ ?_
      · intro a w hR K hK
        obtain ⟨v63, e63, _, q63⟩ := hR.val 0 63 (by kernel_rfl) (by kernel_rfl)
        obtain rfl : v63 = (.pointer (some ⟨g, 0, none⟩)) := q63
        rw [if_pos (wanted_none rfl)]
        have hB := hR.bel
        clear hR
        go_simp
        exact hK _ _ (belowSame _) rfl
      refine steps_cons rfl ?_ ?_
      · intro a w hR K hK
        obtain ⟨v64, e64, _, q64⟩ := hR.val 1 64 (by kernel_rfl) (by kernel_rfl)
        obtain rfl : v64 = (.pointer (some ⟨g, 0, none⟩)) := q64
        rw [if_pos (wanted_none rfl)]
        have hB := hR.bel
        clear hR
        go_simp
        exact hK _ _ (belowSame _) rfl
      refine steps_cons rfl ?_ ?_
      · intro a w hR K hK
        obtain ⟨v65, e65, _, q65⟩ := hR.val 2 65 (by kernel_rfl) (by kernel_rfl)
        obtain rfl : v65 = (.pointer (some ⟨g, 14, none⟩)) := q65
        rw [if_pos (wanted_none rfl)]
        have hc := (hR.bel.cell (p := ⟨g, 14, none⟩) HLT2.out).trans C14.out
        clear hR
        go_simp
        exact hK _ _ (belowSame _) rfl
      refine steps_cons rfl ?_ ?_
      · intro a w hR K hK
        have e9 : a.tmps.getD 9 undef = (.pointer (some ⟨x9, 0, none⟩)) := hR.old 9 (by kernel_rfl) rfl
        rw [if_pos (wanted_none rfl)]
        have hb := hR.bel
        have hc0 := (hb.cell (p := ⟨x9, 0, none⟩) HLX.out).trans X0.out
        have hc1 := (hb.cell (p := ⟨x9, 1, none⟩) HLX.out).trans X1.out
        have hc2 := (hb.cell (p := ⟨x9, 2, none⟩) HLX.out).trans X2.out
        have hc3 := (hb.cell (p := ⟨x9, 3, none⟩) HLX.out).trans X3.out
        have hc4 := (hb.cell (p := ⟨x9, 4, none⟩) HLX.out).trans X4.out
        clear hR hb
        go_simp
        exact hK _ _ (belowSame _) rfl
      refine steps_cons rfl ?_ ?_
      · intro a w hR K hK
        obtain ⟨v67, e67, _, q67⟩ := hR.val 4 67 (by kernel_rfl) (by kernel_rfl)
        obtain rfl : v67 = (.agg #[.int .u64 S.next, .int .i64 S.pos, .int .i64 3, .string T, .bool false]) := q67
        rw [if_pos (wanted_none rfl)]
        have hs := hR.bel.size
        clear hR
        go_simp
        exact hK _ _ (belowNew (belowSame _) _) ⟨_, rfl, Blk.new _ _ _, hs⟩
      exact steps_nil
    · intro a w' hR K hK
      obtain ⟨v66, e66, _, q66⟩ := hR.val 3 66 (by decide) (by kernel_rfl)
      obtain rfl : v66 = (.pointer (some ⟨q, 0, none⟩)) := q66
      obtain ⟨v68, e68, _, q68⟩ := hR.val 5 68 (by decide) (by kernel_rfl)
      rw [if_pos (wanted_none rfl)]
      obtain ⟨x68, rfl, b68, hx68⟩ := q68
      have hB := belowUndrew hR.bel
      have hf := hR.frame
      rw [show dsts _ = [63, 64, 65, 66, 67, 68, 69] from by kernel_rfl] at hf
      obtain ⟨z63, h63⟩ : ∃ z, a.tmps.getD 63 undef = z := ⟨_, rfl⟩
      obtain ⟨z64, h64⟩ : ∃ z, a.tmps.getD 64 undef = z := ⟨_, rfl⟩
      obtain ⟨z65, h65⟩ : ∃ z, a.tmps.getD 65 undef = z := ⟨_, rfl⟩
      obtain ⟨z67, h67⟩ : ∃ z, a.tmps.getD 67 undef = z := ⟨_, rfl⟩
      obtain ⟨z69, h69⟩ : ∃ z, a.tmps.getD 69 undef = z := ⟨_, rfl⟩
      simp only [List.foldl_cons, List.foldl_nil, h63, h64, h65, e66, h67, e68, h69] at hf
      simp only [List.setIfInBounds_toArray, List.set_cons_zero, List.set_cons_succ] at hf
      have ho := HB5.out.then_ hB
      have hl : Lies w' 5 (some ⟨x68, 0, none⟩) 1 (RE.val ⟨S.next, S.pos, 3, T, false⟩) := by
        have := Lies.of_blk b68
        exact ⟨rfl, fun _ => this.2 (by simp)⟩
      have kl := lpush ho (some ⟨x68, 0, none⟩) 1 (Nat.le_refl _) ⟨S.next, S.pos, 3, T, false⟩ hl (by omega)
      clear hR ho hB hl b68 h63 h64 h65 h67 h69
      go_simp
      refine kl.mono ?_
      rintro e3 w6 ⟨rfl, h6⟩
      have H6 := Lib.hid h6
      clear h6 kl
      refine hK _ _ ?_
      clear hK K e66 e68
      subst hf
      go_wp2_with fail
      have c11 : w6.cell? ⟨g, 11, none⟩ = some (.int .i64 S.pos) := H6.out.blk.cell 11
      have f11 : w6.frozen? ⟨g, 11, none⟩ = false := H6.out.blk.frozen 11
      have y2 : w6.cell? ⟨x9, 2, none⟩ = some (.int .i64 3) := H6.out.b0.cell 2
      obtain ⟨r, hr⟩ : ∃ r, (S.pos + 3).tmod 7 = r := ⟨_, rfl⟩
      have hr2 : 0 ≤ r ∧ r ≤ 6 := by rw [← hr, Int.tmod_eq_emod_of_nonneg (by omega)]; omega
      have e1 : IntKind.i64.wrap (S.pos + 3) = S.pos + 3 := IntWalk.i64_in _ (by omega)
      have e2 : IntKind.i64.wrap r = r := IntWalk.i64_in _ (by omega)
      have e3 : IntKind.u64.wrap (S.next + 1) = S.next + 1 := IntWalk.u64_in _ (by omega)
      have HR := Lib.hid hr
      have kz : Calls Tryz.prog 44 #[.pointer (some ⟨g, 0, none⟩)] w6.drew fun e w' => e = .returned (.int .i64 7) ∧ w' = w6.drew := (size_any H6.out.drew).mono fun _ _ ⟨a, b⟩ => ⟨a, b.symm⟩
      refine wp_region_still_tail 13 (by kernel_rfl) (by kernel_rfl) ?_
      simp only [List.take_succ_cons, List.take_zero, List.drop_succ_cons, List.drop_zero]
      repeat (first | still_step | still_call (by (go_at_call 44); exact kz))
      try refine wpStill_nil ?_
      have h7 := H6.out.drew.set (S' := { S with es := S.es ++ [⟨S.next, S.pos, 3, T, false⟩], pos := r }) 11 (.int .i64 r) rfl rfl
      have g11 : w6.drew.cell? ⟨g, 11, none⟩ = some (.int .i64 S.pos) := H6.out.drew.blk.cell 11
      have m11 : w6.drew.frozen? ⟨g, 11, none⟩ = false := H6.out.drew.blk.frozen 11
      go_upto_region 14 with fail
      obtain ⟨w7, hw7⟩ : ∃ W, w6.drew.setCell ⟨g, 11, none⟩ (.int .i64 r) = W := ⟨_, rfl⟩
      rw [hw7] at h7
      (change Code.wp _ _ _ _ (w6.drew.setCell ⟨g, 11, none⟩ (.int .i64 r)))
      rw [hw7]
      have c9 : w7.cell? ⟨g, 9, none⟩ = some (.int .u64 S.next) := h7.blk.cell 9
      have f9 : w7.frozen? ⟨g, 9, none⟩ = false := h7.blk.frozen 9
      have h8 := h7.set (S' := { S with es := S.es ++ [⟨S.next, S.pos, 3, T, false⟩], pos := r, next := S.next + 1 }) 9 (.int .u64 (S.next + 1)) rfl rfl
      have HW7 := Lib.hid hw7
      have H8 := Lib.hid h8
      clear h7 h8 hw7 c11 f11 y2 kz g11 m11
      go_upto_region 15 with fail
      have y0 : (w7.setCell ⟨g, 9, none⟩ (.int .u64 (S.next + 1))).cell? ⟨x9, 0, none⟩ = some (.int .u64 S.next) := H8.out.b0.cell 0
      go_wp2_with fail
      go_ret2
      exact ⟨rfl, by rw [HR.out]; exact H8.out.pop⟩
end
end Go.Proofs.YtakilnpfhljgfaaGreat.WL

/- 'make([]byte, n)', and a text made of bytes. No condition. -/
namespace Go.Proofs.YtakilnpfhljgfaaGreat
set_option maxRecDepth 100000
open Go.RowKit
set_option linter.unusedVariables false
set_option linter.unusedSimpArgs false

theorem infByte : (Tryz.prog.info? 5).map (fun i => (i.zero, i.size, i.bytes)) = some (some (.int .u8 0), 1, 1) := by kernel_rfl
abbrev zeroCells (k : Nat) : Array Value := madeCells (Value.int .u8 0).cells (k * 1)
theorem zeros_make (k : Nat) (hk : k ≤ 100000) (W : World) : (Instr.makeSlice 84 (.int .i64 (k : Int)) (.int .i64 (k : Int))).run Tryz.prog W = .ok (.slice (some ⟨W.heap.size, 0, none⟩) k k) (W.alloc (.cells (zeroCells k) 5)) := by
  obtain ⟨i0, hi, hz0, hz1, hz2⟩ := info_parts infByte
  have hr := run_make (P := Tryz.prog) W 84 5 i0 (.int .u8 0) Tryz.underlying84 hi hz0 .i64 .i64 (k : Int) (k : Int) (by omega) (by omega) (by rw [hz2]; omega) (by omega)
  rw [hz1] at hr
  simp only [Int.toNat_natCast] at hr
  exact hr
theorem zeros_cells (k : Nat) (W : World) : Cells (W.alloc (.cells (zeroCells k) 5)) W.heap.size (List.replicate k 0) := by
  refine ⟨by simp, fun j x hx => ?_⟩
  have hb : Blk (W.alloc (.cells (zeroCells k) 5)) W.heap.size 5 (zeroCells k) := Blk.new _ _ _
  refine ⟨?_, hb.frozen j⟩
  rw [hb.cell]
  have hj : j < k := by
    rcases Nat.lt_or_ge j k with h | h
    · exact h
    · rw [List.getElem?_eq_none (by simpa using h)] at hx; cases hx
  rw [List.getElem?_replicate, if_pos hj] at hx
  injection hx with hx
  subst hx
  simp [zeroCells, madeCells, hj, Value.cells, Nat.mod_one]
theorem text_of {w : World} {g : Nat} {l : List UInt8} (h : Cells w g l) (n c : Nat) (hn : l.length = n) : (convert 84 9 (.slice (some ⟨g, 0, none⟩) n c)).run Tryz.prog w = .ok (.string ⟨l.toArray⟩) w :=
  h.str (P := Tryz.prog) 84 9 5 Tryz.underlying84 Tryz.underlying5 Tryz.underlying9 n c hn
end Go.Proofs.YtakilnpfhljgfaaGreat

/- commonslaw11: One, alive. No condition. -/
namespace Go.Proofs.YtakilnpfhljgfaaGreat.RC
set_option maxRecDepth 100000
open Go.RowKit Go.Proofs.YtakilnpfhljgfaaGreat.WI Go.Proofs.YtakilnpfhljgfaaGreat.SM
set_option linter.unusedVariables false
set_option linter.unusedSimpArgs false

def d3 : ByteArray := ⟨((List.replicate 96 (0 : UInt8)).set 0 3).toArray⟩
theorem d3_size : d3.size = 96 := by decide +kernel
def im3 : Im := ⟨3, 4, d3⟩
set_option maxHeartbeats 4000000 in
theorem one_3 (w : World) : Calls Tryz.prog 11 #[.int .i64 3, .int .u64 4] w fun x w' => x = .returned (iagg im3) ∧ Below w.heap.size w w' := by
  have hmk : ∀ W : World, (Instr.makeSlice 84 (.int .i64 96) (.int .i64 96)).run Tryz.prog W = .ok (.slice (some ⟨W.heap.size, 0, none⟩) 96 96) (W.alloc (.cells (zeroCells 96) 5)) := zeros_make 96 (by omega)
  have hbn := Blk.new w TIm #[.int .i64 0, .int .u64 0, .string ⟨#[]⟩]
  have hb0 := (Below.refl _ w).alloc (Nat.le_refl _) (.cells #[.int .i64 0, .int .u64 0, .string ⟨#[]⟩] TIm)
  obtain ⟨W0, hW0⟩ : ∃ W0, w.alloc (.cells #[.int .i64 0, .int .u64 0, .string ⟨#[]⟩] TIm) = W0 := ⟨_, rfl⟩
  rw [hW0] at hbn hb0
  obtain ⟨r0, hr0⟩ : ∃ r, w.heap.size = r := ⟨_, rfl⟩
  rw [hr0] at hbn
  have hz := zeros_cells 96 W0
  have hb1 : Below W0.heap.size W0 (W0.alloc (.cells (zeroCells 96) 5)) := (Below.refl _ W0).alloc (Nat.le_refl _) _
  obtain ⟨W1, hW1⟩ : ∃ W1, W0.alloc (.cells (zeroCells 96) 5) = W1 := ⟨_, rfl⟩
  have hmk0 := hmk W0
  rw [hW1] at hz hb1 hmk0
  obtain ⟨g, hg⟩ : ∃ g, W0.heap.size = g := ⟨_, rfl⟩
  have hgr : r0 < g := by have := hbn.lt; omega
  rw [hg] at hz hb1 hmk0
  have hz3 := hz.set_ 0 (by simp) 3
  have hb3 : Below g W0 (W1.setCell ⟨g, 0, none⟩ (.int .u8 ((3 : UInt8).toNat : Int))) := hb1.setCell (p := ⟨g, 0, none⟩) (Nat.le_refl _) _
  have h00 : W1.cell? ⟨g, 0, none⟩ = some (.int .u8 0) := (hz.2 0 0 rfl).1
  have f00 : W1.frozen? ⟨g, 0, none⟩ = false := (hz.2 0 0 rfl).2
  have hcv := text_of hz3 96 96 (by simp)
  rw [show (((3 : UInt8).toNat : Nat) : Int) = 3 from rfl] at hb3 hcv
  rw [show (⟨((List.replicate 96 (0 : UInt8)).set 0 3).toArray⟩ : ByteArray) = d3 from rfl] at hcv
  obtain ⟨W2, hW2⟩ : ∃ W2, W1.setCell ⟨g, 0, none⟩ (.int .u8 3) = W2 := ⟨_, rfl⟩
  rw [hW2] at hb3 hcv
  have hbr : Blk W2 r0 TIm #[.int .i64 0, .int .u64 0, .string ⟨#[]⟩] := hbn.below hb3 hgr
  have r0' : W2.cell? ⟨r0, 0, none⟩ = some (.int .i64 0) := hbr.cell 0
  have r1' : W2.cell? ⟨r0, 1, none⟩ = some (.int .u64 0) := hbr.cell 1
  have r2' : W2.cell? ⟨r0, 2, none⟩ = some (.string ⟨#[]⟩) := hbr.cell 2
  have f0 := hbr.frozen 0
  have f1 := hbr.frozen 1
  have f2 := hbr.frozen 2
  have HBR := Lib.hid hbr
  have HB : Hid (Below w.heap.size w W2) := Lib.hid (hb0.trans (hb3.mono (by rw [← hg]; exact hb0.size)))
  have HW0 := Lib.hid hW0
  have HR0 := Lib.hid hr0
  have HW2 := Lib.hid hW2
  obtain ⟨D, hD⟩ : ∃ D, d3 = D := ⟨_, rfl⟩
  have e3 : iagg im3 = .agg #[.int .i64 3, .int .u64 4, .string D] := by rw [← hD]; rfl
  rw [e3]
  rw [hD] at hcv
  clear hz hb1 hz3 hb3 hbr hbn hb0 hW0 hr0 hW1 hW2 hmk hg hD e3
  go_enter Tryz.func11, Tryz.ntmps11
  go_upto_region 1 with fail
  rw [show w.alloc (.cells #[.int .i64 0, .int .u64 0, .string ⟨#[]⟩] TIm) = W0 from HW0.out, HR0.out]
  go_upto_region 3 with fail
  rw [HW2.out]
  go_wp2_with fail
  have b4 := ((HBR.out.set_ 0 (.int .i64 3)).set_ 1 (.int .u64 4)).set_ 2 (.string D)
  have hr0 := HR0.out
  have hE : Below w.heap.size w ((((W2.setCell ⟨r0, 0, none⟩ (.int .i64 3)).setCell ⟨r0, 1, none⟩ (.int .u64 4)).setCell ⟨r0, 2, none⟩ (.string D))) := ((HB.out.setCell (p := ⟨r0, 0, none⟩) (by show w.heap.size ≤ r0; omega) _).setCell (p := ⟨r0, 1, none⟩) (by show w.heap.size ≤ r0; omega) _).setCell (p := ⟨r0, 2, none⟩) (by show w.heap.size ≤ r0; omega) _
  have d0 : ((((W2.setCell ⟨r0, 0, none⟩ (.int .i64 3)).setCell ⟨r0, 1, none⟩ (.int .u64 4)).setCell ⟨r0, 2, none⟩ (.string D))).cell? ⟨r0, 0, none⟩ = some (.int .i64 3) := b4.cell 0
  have d1 : ((((W2.setCell ⟨r0, 0, none⟩ (.int .i64 3)).setCell ⟨r0, 1, none⟩ (.int .u64 4)).setCell ⟨r0, 2, none⟩ (.string D))).cell? ⟨r0, 1, none⟩ = some (.int .u64 4) := b4.cell 1
  have d2 : ((((W2.setCell ⟨r0, 0, none⟩ (.int .i64 3)).setCell ⟨r0, 1, none⟩ (.int .u64 4)).setCell ⟨r0, 2, none⟩ (.string D))).cell? ⟨r0, 2, none⟩ = some (.string D) := b4.cell 2
  exact bodyPost_ret (v := .agg #[.int .i64 3, .int .u64 4, .string D]) (by simp [results, Tryz.results11, go_sem, d0, d1, d2]) rfl ⟨rfl, hE⟩
/-- What the call 'alive' tells. -/
def Quiet (w : World) (e : Ending) (w' : World) : Prop := e = .returned (.bool true) ∧ Below w.heap.size w w'
theorem im3_ok : ∀ x ∈ [im3], ImOk x := fun x hx => by
  obtain rfl : x = im3 := by simpa using hx
  exact ⟨by decide, by decide, by show d3.size ≤ _; rw [d3_size]; omega⟩
theorem rise3 : riseB [im3] 1 = true := by
  have h : rightB im3 = true := by unfold rightB; simp [im3, d3_size]
  show (riseB [im3] 0 && rightB im3 && (0 == 0 || _)) = true
  rw [h]
  rfl
theorem fits3 : Fits 1 2 [im3] := ⟨by decide, by decide, by decide, by decide, rise3⟩
theorem ims3 (W : World) : Ims (W.alloc (.cells #[.int .i64 3, .int .u64 4, .string d3] TIm)) (some ⟨W.heap.size, 0, none⟩) 1 1 [im3] := by
  refine ⟨by omega, by unfold maxLen; omega, rfl, im3_ok, fun _ => ⟨W.heap.size, 0, rfl, by simp, fun i x hx j u hu => ?_⟩⟩
  have hi : i = 0 := by
    rcases Nat.lt_or_ge i 1 with h | h
    · omega
    · rw [List.getElem?_eq_none (by simpa using h)] at hx; cases hx
  subst hi
  obtain rfl : im3 = x := by simpa using hx
  have hb : Blk (W.alloc (.cells #[.int .i64 3, .int .u64 4, .string d3] TIm)) W.heap.size TIm #[.int .i64 3, .int .u64 4, .string d3] := Blk.new _ _ _
  have := hb.cell (0 + (0 * 3 + j))
  rw [this, show 0 + (0 * 3 + j) = j by omega]
  rw [← hu]
  simp [ival, im3]
end Go.Proofs.YtakilnpfhljgfaaGreat.RC

/- commonslaw11: One, of any number and version; a row of one image. No condition. -/
namespace Go.Proofs.YtakilnpfhljgfaaGreat.RC
set_option maxRecDepth 100000
open Go.RowKit Go.Proofs.YtakilnpfhljgfaaGreat.WI Go.Proofs.YtakilnpfhljgfaaGreat.SM
set_option linter.unusedVariables false
set_option linter.unusedSimpArgs false

def oneT (n : Nat) : ByteArray := ⟨((List.replicate 96 (0 : UInt8)).set 0 (UInt8.ofNat n)).toArray⟩
theorem oneT_size (n : Nat) : (oneT n).size = 96 := by simp [oneT, ByteArray.size]
def oneI (n : Nat) (v : Int) : Im := ⟨(n : Int), v, oneT n⟩
set_option maxHeartbeats 4000000 in
theorem one_any (n : Nat) (hn : n < 256) (v : Int) (w : World) : Calls Tryz.prog 11 #[.int .i64 (n : Int), .int .u64 v] w fun x w' => x = .returned (iagg (oneI n v)) ∧ Below w.heap.size w w' := by
  have hmk : ∀ W : World, (Instr.makeSlice 84 (.int .i64 96) (.int .i64 96)).run Tryz.prog W = .ok (.slice (some ⟨W.heap.size, 0, none⟩) 96 96) (W.alloc (.cells (zeroCells 96) 5)) := zeros_make 96 (by omega)
  have hbn := Blk.new w TIm #[.int .i64 0, .int .u64 0, .string ⟨#[]⟩]
  have hb0 := (Below.refl _ w).alloc (Nat.le_refl _) (.cells #[.int .i64 0, .int .u64 0, .string ⟨#[]⟩] TIm)
  obtain ⟨W0, hW0⟩ : ∃ W0, w.alloc (.cells #[.int .i64 0, .int .u64 0, .string ⟨#[]⟩] TIm) = W0 := ⟨_, rfl⟩
  rw [hW0] at hbn hb0
  obtain ⟨r0, hr0⟩ : ∃ r, w.heap.size = r := ⟨_, rfl⟩
  rw [hr0] at hbn
  have hz := zeros_cells 96 W0
  have hb1 : Below W0.heap.size W0 (W0.alloc (.cells (zeroCells 96) 5)) := (Below.refl _ W0).alloc (Nat.le_refl _) _
  obtain ⟨W1, hW1⟩ : ∃ W1, W0.alloc (.cells (zeroCells 96) 5) = W1 := ⟨_, rfl⟩
  have hmk0 := hmk W0
  rw [hW1] at hz hb1 hmk0
  obtain ⟨g, hg⟩ : ∃ g, W0.heap.size = g := ⟨_, rfl⟩
  have hgr : r0 < g := by have := hbn.lt; omega
  rw [hg] at hz hb1 hmk0
  have hz3 := hz.set_ 0 (by simp) (UInt8.ofNat n)
  have hb3 : Below g W0 (W1.setCell ⟨g, 0, none⟩ (.int .u8 ((UInt8.ofNat n).toNat : Int))) := hb1.setCell (p := ⟨g, 0, none⟩) (Nat.le_refl _) _
  have h00 : W1.cell? ⟨g, 0, none⟩ = some (.int .u8 0) := (hz.2 0 0 rfl).1
  have f00 : W1.frozen? ⟨g, 0, none⟩ = false := (hz.2 0 0 rfl).2
  have hcv := text_of hz3 96 96 (by simp)
  have hnn : (UInt8.ofNat n).toNat = n := by simp; omega
  rw [hnn] at hb3 hcv
  have ew : IntKind.u8.wrap (n : Int) = (n : Int) := IntWalk.u8_in _ (by omega)
  rw [show (⟨((List.replicate 96 (0 : UInt8)).set 0 (UInt8.ofNat n)).toArray⟩ : ByteArray) = oneT n from rfl] at hcv
  obtain ⟨W2, hW2⟩ : ∃ W2, W1.setCell ⟨g, 0, none⟩ (.int .u8 (n : Int)) = W2 := ⟨_, rfl⟩
  rw [hW2] at hb3 hcv
  have hbr : Blk W2 r0 TIm #[.int .i64 0, .int .u64 0, .string ⟨#[]⟩] := hbn.below hb3 hgr
  have r0' : W2.cell? ⟨r0, 0, none⟩ = some (.int .i64 0) := hbr.cell 0
  have r1' : W2.cell? ⟨r0, 1, none⟩ = some (.int .u64 0) := hbr.cell 1
  have r2' : W2.cell? ⟨r0, 2, none⟩ = some (.string ⟨#[]⟩) := hbr.cell 2
  have f0 := hbr.frozen 0
  have f1 := hbr.frozen 1
  have f2 := hbr.frozen 2
  have HBR := Lib.hid hbr
  have HB : Hid (Below w.heap.size w W2) := Lib.hid (hb0.trans (hb3.mono (by rw [← hg]; exact hb0.size)))
  have HW0 := Lib.hid hW0
  have HR0 := Lib.hid hr0
  have HW2 := Lib.hid hW2
  obtain ⟨D, hD⟩ : ∃ D, oneT n = D := ⟨_, rfl⟩
  have e3 : iagg (oneI n v) = .agg #[.int .i64 (n : Int), .int .u64 v, .string D] := by rw [← hD]; rfl
  rw [e3]
  rw [hD] at hcv
  clear hnn hz hb1 hz3 hb3 hbr hbn hb0 hW0 hr0 hW1 hW2 hmk hg hD e3
  go_enter Tryz.func11, Tryz.ntmps11
  go_upto_region 1 with fail
  rw [show w.alloc (.cells #[.int .i64 0, .int .u64 0, .string ⟨#[]⟩] TIm) = W0 from HW0.out, HR0.out]
  go_upto_region 3 with fail
  rw [HW2.out]
  go_wp2_with fail
  have b4 := ((HBR.out.set_ 0 (.int .i64 (n : Int))).set_ 1 (.int .u64 v)).set_ 2 (.string D)
  have hr0 := HR0.out
  have hE : Below w.heap.size w ((((W2.setCell ⟨r0, 0, none⟩ (.int .i64 (n : Int))).setCell ⟨r0, 1, none⟩ (.int .u64 v)).setCell ⟨r0, 2, none⟩ (.string D))) := ((HB.out.setCell (p := ⟨r0, 0, none⟩) (by show w.heap.size ≤ r0; omega) _).setCell (p := ⟨r0, 1, none⟩) (by show w.heap.size ≤ r0; omega) _).setCell (p := ⟨r0, 2, none⟩) (by show w.heap.size ≤ r0; omega) _
  have d0 : ((((W2.setCell ⟨r0, 0, none⟩ (.int .i64 (n : Int))).setCell ⟨r0, 1, none⟩ (.int .u64 v)).setCell ⟨r0, 2, none⟩ (.string D))).cell? ⟨r0, 0, none⟩ = some (.int .i64 (n : Int)) := b4.cell 0
  have d1 : ((((W2.setCell ⟨r0, 0, none⟩ (.int .i64 (n : Int))).setCell ⟨r0, 1, none⟩ (.int .u64 v)).setCell ⟨r0, 2, none⟩ (.string D))).cell? ⟨r0, 1, none⟩ = some (.int .u64 v) := b4.cell 1
  have d2 : ((((W2.setCell ⟨r0, 0, none⟩ (.int .i64 (n : Int))).setCell ⟨r0, 1, none⟩ (.int .u64 v)).setCell ⟨r0, 2, none⟩ (.string D))).cell? ⟨r0, 2, none⟩ = some (.string D) := b4.cell 2
  exact bodyPost_ret (v := .agg #[.int .i64 (n : Int), .int .u64 v, .string D]) (by simp [results, Tryz.results11, go_sem, d0, d1, d2]) rfl ⟨rfl, hE⟩
theorem one_ok (n : Nat) (hn : n < 256) (v : Int) (hv : 0 ≤ v ∧ v ≤ 18446744073709551615) : ImOk (oneI n v) :=
  ⟨by show _ ≤ (n : Int) ∧ (n : Int) ≤ _; omega, hv, by show (oneT n).size ≤ _; rw [oneT_size]; omega⟩
theorem one_fits (e l : Int) (he : e ≠ 0) (hl : l ≠ 0) (n : Nat) (hn : n < 256) (v : Int) : Fits e l [oneI n v] := by
  have h : rightB (oneI n v) = true := by
    show (decide (0 ≤ (n : Int)) && decide ((n : Int) < 4096) && decide ((oneT n).size = 96)) = true
    rw [oneT_size, decide_eq_true (show 0 ≤ (n : Int) by omega), decide_eq_true (show (n : Int) < 4096 by omega)]
    rfl
  refine ⟨he, hl, by simp, by simp, ?_⟩
  show (riseB [oneI n v] 0 && rightB (oneI n v) && (0 == 0 || _)) = true
  rw [h]
  rfl
theorem ims_one {w : World} {b : Nat} {x : Im} (hb : Blk w b TIm #[.int .i64 x.b, .int .u64 x.v, .string x.d]) (hx : ImOk x) : Ims w (some ⟨b, 0, none⟩) 1 1 [x] := by
  refine ⟨by omega, by unfold maxLen; omega, rfl, fun y hy => by rw [List.mem_singleton.1 hy]; exact hx, fun _ => ⟨b, 0, rfl, hb.lt, fun i y hy j u hu => ?_⟩⟩
  have hi : i = 0 := by
    rcases Nat.lt_or_ge i 1 with h | h
    · omega
    · rw [List.getElem?_eq_none (by simpa using h)] at hy; cases hy
  subst hi
  obtain rfl : x = y := by simpa using hy
  have := hb.cell (0 + (0 * 3 + j))
  rw [this, show 0 + (0 * 3 + j) = j by omega]
  rw [← hu]
  simp [ival]
theorem putT_one (e l : Int) (xs : List Im) (h : xs.length = 1) : (putT e l xs).size = 192 := by
  unfold putT
  rw [h, putK_size]
  rfl
end Go.Proofs.YtakilnpfhljgfaaGreat.RC

/- wlog: Open. No condition. -/
namespace Go.Proofs.YtakilnpfhljgfaaGreat.WL
set_option maxRecDepth 100000
open Go.RowKit Go.Proofs.YtakilnpfhljgfaaGreat.MI Go.Proofs.YtakilnpfhljgfaaGreat.WI Go.Proofs.YtakilnpfhljgfaaGreat.SM Go.Proofs.YtakilnpfhljgfaaGreat.DK Go.Proofs.YtakilnpfhljgfaaGreat.SU Go.Proofs.YtakilnpfhljgfaaGreat.BK
set_option linter.unusedVariables false
set_option linter.unusedSimpArgs false

/-- A log that was just opened. -/
def L0 : Lg := ⟨1, 1, 0, 0, 0, []⟩
section
variable {w0 W W' w2 : World} {g d q N : Nat} {D : Dk} {bl : List (Nat × TypeId × Array Value)}
theorem opened (h : OwnL w0 d N D bl W) (hf : Fine D) (hr : RingAtN RE.val 5 TRg TEn w2 W.heap.size W.heap.size 100000 none 0 []) (hk : Below W.heap.size W w2) :
    LogAt w0 w2.heap.size d W.heap.size N L0 bl (w2.alloc (.cells (lcells d W.heap.size L0) TLg)) := by
  obtain ⟨p, h1, h2, h3⟩ := h
  have hq := hr.blk.lt
  have hn := belowNew (belowSame w2) (.cells (lcells d W.heap.size L0) TLg)
  have hlt : ∀ k, fp d p k → k < W.heap.size := h1.lt
  have hrf : ∀ k, ringF W.heap.size none k → k = W.heap.size := fun k hk => by
    rcases hk with hk | hk
    · exact hk
    · simp [Value.ownBlock] at hk
  have hw := h2.size
  refine ⟨p, D, none, 0, ⟨hf, (h1.old hk).alloc _, (hr.alloc _).base_ h2.size, Blk.new _ _ _, by omega, fun hk => by have := hlt _ hk; omega, fun hk => by have := hrf _ hk; omega, fun k k1 k2 => by have := hlt _ k1; have := hrf _ k2; omega⟩, belowThen (belowThen h2 hk) hn, fun b hbl => ?_⟩
  obtain ⟨b1, b2⟩ := h3 b hbl
  have hb := b1.lt
  exact ⟨(b1.below hk hb).alloc _, b2, fun hk => by have := hrf _ hk; omega, by omega⟩
set_option maxHeartbeats 4000000 in
theorem open_any (h : OwnL w0 d N D bl W) (hf : Fine D) (hN : N ≤ 9000000) :
    Calls Tryz.prog 9 #[.pointer (some ⟨d, 0, none⟩), sagg sh0, .int .i64 1, .int .u64 9] W fun e w' => ∃ g q, e = .returned (.tuple #[.pointer (some ⟨g, 0, none⟩), .int .i64 0]) ∧ LogAt w0 g d q (N + 16) L0 bl w' := by
  have kb := fun W => log_ok sh0 good0 1 (by decide) W
  rw [show logI sh0 1 = 1 from rfl] at kb
  have kn := fun W => RE.new_any 100000 W
  rw [show RE.roomOf 100000 = 100000 from rfl] at kn
  have kh := fun (g q : Nat) (W : World) (h : LogAt w0 g d q N L0 bl W) => head_any h 1 0 (by decide) (by decide) hN
  have kop := fun (W w2 : World) (h : OwnL w0 d N D bl W) => opened (w2 := w2) h hf
  unfold lcells L0 at kop
  unfold sagg sh0 at *
  dsimp only at kop
  have HH := Lib.hid (h.beside TLa #[.int .i64 2, .int .i64 10, .int .i64 8, .int .i64 4, .int .i64 32])
  have KOP := Lib.hid kop
  have KH := Lib.hid kh
  clear h kop kh
  obtain ⟨W1, hW1⟩ : ∃ W1, W.alloc (.cells #[.int .i64 2, .int .i64 10, .int .i64 8, .int .i64 4, .int .i64 32] TLa) = W1 := ⟨_, rfl⟩
  rw [hW1] at HH
  obtain ⟨x0, hx0⟩ : ∃ x, W.heap.size = x := ⟨_, rfl⟩
  rw [hx0] at HH
  have HW := Lib.hid hW1
  have HX := Lib.hid hx0
  clear hW1 hx0
  go_enter Tryz.func9, Tryz.ntmps9
  go_upto_region 1 with fail
  rw [show W.alloc (.cells #[.int .i64 2, .int .i64 10, .int .i64 8, .int .i64 4, .int .i64 32] TLa) = W1 from HW.out, HX.out]
  have c0 : W1.cell? ⟨x0, 0, none⟩ = some (.int .i64 2) := HH.out.b0.cell 0
  have c1 : W1.cell? ⟨x0, 1, none⟩ = some (.int .i64 10) := HH.out.b0.cell 1
  have c2 : W1.cell? ⟨x0, 2, none⟩ = some (.int .i64 8) := HH.out.b0.cell 2
  have c3 : W1.cell? ⟨x0, 3, none⟩ = some (.int .i64 4) := HH.out.b0.cell 3
  have c4 : W1.cell? ⟨x0, 4, none⟩ = some (.int .i64 32) := HH.out.b0.cell 4
  go_upto_region 6 with (go_at_call 36; refine (kb _).mono ?_; rintro e w1 ⟨rfl, hb⟩; have H1 := Lib.hid (HH.out.then_ hb); clear hb kb)
  clear c0 c1 c2 c3 c4 HW HX
  have HD := Lib.hid (H1.out.then_ (belowDrew (belowSame w1)))
  have c0 : w1.drew.cell? ⟨x0, 0, none⟩ = some (.int .i64 2) := HD.out.b0.cell 0
  have c1 : w1.drew.cell? ⟨x0, 1, none⟩ = some (.int .i64 10) := HD.out.b0.cell 1
  have c2 : w1.drew.cell? ⟨x0, 2, none⟩ = some (.int .i64 8) := HD.out.b0.cell 2
  have c3 : w1.drew.cell? ⟨x0, 3, none⟩ = some (.int .i64 4) := HD.out.b0.cell 3
  have c4 : w1.drew.cell? ⟨x0, 4, none⟩ = some (.int .i64 32) := HD.out.b0.cell 4
  go_region_held3 (fun W => W.cell? ⟨x0, 0, none⟩ = some (.int .i64 2) ∧ W.cell? ⟨x0, 1, none⟩ = some (.int .i64 10) ∧ W.cell? ⟨x0, 2, none⟩ = some (.int .i64 8) ∧ W.cell? ⟨x0, 3, none⟩ = some (.int .i64 4) ∧ W.cell? ⟨x0, 4, none⟩ = some (.int .i64 32)) (go_keep) (first
    | (go_at_call 37; refine (kn _).mono ?_; rintro e w2 ⟨rfl, hr, hk⟩; have h2 := HD.out.then_ hk.belowW; have s0 : w2.cell? ⟨x0, 0, none⟩ = some (.int .i64 2) := h2.b0.cell 0; have s1 : w2.cell? ⟨x0, 1, none⟩ = some (.int .i64 10) := h2.b0.cell 1; have s2 : w2.cell? ⟨x0, 2, none⟩ = some (.int .i64 8) := h2.b0.cell 2; have s3 : w2.cell? ⟨x0, 3, none⟩ = some (.int .i64 4) := h2.b0.cell 3; have s4 : w2.cell? ⟨x0, 4, none⟩ = some (.int .i64 32) := h2.b0.cell 4; have HR := Lib.hid (And.intro hr hk.belowW); clear hr hk h2))
  obtain ⟨hr, hk⟩ := HR.out
  have hp : OwnL w0 d N D bl w1.drew := by
    obtain ⟨p, k1, k2, k3⟩ := HD.out
    exact ⟨p, k1, k2, fun b hb => k3 b (List.mem_cons_of_mem _ hb)⟩
  have ho := KOP.out _ _ hp hr hk
  have hsz : w1.drew.heap.size = w1.heap.size := rfl
  rw [hsz] at ho
  have HO := Lib.hid ho
  clear ho hr hk hp hsz c0 c1 c2 c3 c4
  go_upto_region 7 with fail
  obtain ⟨W3, hW3⟩ : ∃ W3, w2.alloc (.cells #[.pointer (some ⟨d, 0, none⟩), .int .i64 2, .int .i64 10, .int .i64 8, .int .i64 4, .int .i64 32, .int .i64 1, .int .u64 9, .int .i64 1, .int .u64 1, .int .u64 1, .int .i64 0, .int .u64 0, .int .u64 0, .pointer (some ⟨w1.heap.size, 0, none⟩), .bool false] TLg) = W3 := ⟨_, rfl⟩
  have h3 : LogAt w0 w2.heap.size d w1.heap.size N { next := 1, first := 1, pos := 0, written := 0, synced := 0, es := [] } bl W3 := hW3 ▸ HO.out
  rw [hW3]
  obtain ⟨g, hg⟩ : ∃ g, w2.heap.size = g := ⟨_, rfl⟩
  rw [hg] at h3 ⊢
  have H3 := Lib.hid h3
  clear hW3 hg h3 HO
  go_wp2_with (go_at_call 38; refine (KH.out _ _ _ H3.out).mono ?_; rintro e w4 ⟨rfl, h4⟩; have H4 := Lib.hid h4; clear h4)
  go_ret2
  exact ⟨g, _, rfl, H4.out⟩
end
end Go.Proofs.YtakilnpfhljgfaaGreat.WL

/- wlog: a log whose records have three sectors each: what its calls make of it, in plain words. No condition. -/
namespace Go.Proofs.YtakilnpfhljgfaaGreat.WL
set_option maxRecDepth 100000
open Go.RowKit Go.Proofs.YtakilnpfhljgfaaGreat.MI Go.Proofs.YtakilnpfhljgfaaGreat.WI Go.Proofs.YtakilnpfhljgfaaGreat.SM Go.Proofs.YtakilnpfhljgfaaGreat.DK Go.Proofs.YtakilnpfhljgfaaGreat.SU Go.Proofs.YtakilnpfhljgfaaGreat.BK
set_option linter.unusedVariables false
set_option linter.unusedSimpArgs false

structure LSane (S : Lg) : Prop where
  nx : 0 < S.next
  m : S.es.length ≤ 2
  ok : ∀ x ∈ S.es, EnOk x
  pos : 0 ≤ S.pos ∧ S.pos ≤ 6
  lsn : ∀ (i : Nat) (x : RE.En), S.es[i]? = some x → x.l = S.next - (S.es.length : Int) + (i : Int)
  fst : S.first + (S.es.length : Int) = S.next
  f0 : 1 ≤ S.first
  wr : wrW S.written S.es = S.next - 1
  sy : 0 ≤ S.synced ∧ S.synced ≤ S.next - 1
theorem sane0 : LSane L0 := ⟨by decide, by decide, fun x hx => by simp [L0] at hx, by decide, fun i x hx => by simp [L0] at hx, by decide, by decide, by decide, by decide⟩
def addS (S : Lg) (xs : List RC.Im) : Lg := { S with es := S.es ++ [⟨S.next, S.pos, 3, RC.putT 9 S.next xs, false⟩], pos := (S.pos + 3).tmod 7, next := S.next + 1 }
def syncS (S : Lg) : Lg := { S with es := S.es.map doneE, written := S.next - 1, synced := S.next - 1 }
def freeS (S : Lg) (l : Int) (j : Nat) : Lg := { S with es := S.es.drop j, first := l }
section
variable {S : Lg} {xs : List RC.Im}
theorem wrW_snoc (v : Int) (es : List RE.En) (x : RE.En) : wrW v (es ++ [x]) = if x.b then wrW v es else x.l := by unfold wrW; rw [List.foldl_append]; rfl
theorem LSane.add (h : LSane S) (hx : xs.length = 1) (hm : S.es.length ≤ 1) : LSane (addS S xs) := by
  have hn := h.nx
  have hlen : (addS S xs).es.length = S.es.length + 1 := by show (S.es ++ [_]).length = _; simp
  refine ⟨by show 0 < S.next + 1; omega, by omega, fun x hx' => ?_, ?_, fun i x hi => ?_, ?_, h.f0, ?_, ?_⟩
  · rcases List.mem_append.1 (show x ∈ S.es ++ [_] from hx') with h1 | h1
    · exact h.ok x h1
    · rw [List.mem_singleton.1 h1]
      exact ⟨rfl, h.pos, fun _ => RC.putT_one 9 S.next xs hx⟩
  · show 0 ≤ (S.pos + 3).tmod 7 ∧ (S.pos + 3).tmod 7 ≤ 6
    have := h.pos
    rw [Int.tmod_eq_emod_of_nonneg (by omega)]
    omega
  · rw [hlen]
    show x.l = S.next + 1 - _ + _
    have hi2 : (S.es ++ [(⟨S.next, S.pos, 3, RC.putT 9 S.next xs, false⟩ : RE.En)])[i]? = some x := hi
    rw [List.getElem?_append] at hi2
    split at hi2
    · have := h.lsn i x hi2; omega
    · rename_i hlt
      have h0 : i - S.es.length = 0 := by
        rcases Nat.lt_or_ge (i - S.es.length) 1 with h | h
        · omega
        · rw [List.getElem?_eq_none (by simpa using h)] at hi2; cases hi2
      rw [h0] at hi2
      injection hi2 with hi2
      rw [← hi2]
      show S.next = _
      omega
  · rw [hlen]
    show S.first + _ = S.next + 1
    have := h.fst
    omega
  · show wrW S.written (S.es ++ [_]) = S.next + 1 - 1
    rw [wrW_snoc]
    show S.next = _
    omega
  · have := h.sy
    show 0 ≤ S.synced ∧ S.synced ≤ S.next + 1 - 1
    omega
theorem done_l (x : RE.En) : (doneE x).l = x.l ∧ (doneE x).p = x.p ∧ (doneE x).n = x.n ∧ (doneE x).b = true := by
  unfold doneE
  cases hb : x.b
  · exact ⟨rfl, rfl, rfl, rfl⟩
  · exact ⟨rfl, rfl, rfl, hb⟩
theorem wrW_done (v : Int) (es : List RE.En) : wrW v (es.map doneE) = v := by
  unfold wrW
  induction es generalizing v with
  | nil => rfl
  | cons x es ih =>
    rw [List.map_cons, List.foldl_cons, if_pos (done_l x).2.2.2]
    exact ih v
theorem LSane.sync (h : LSane S) : LSane (syncS S) := by
  have hn := h.nx
  have hlen : (syncS S).es.length = S.es.length := by show (S.es.map doneE).length = _; simp
  refine ⟨h.nx, by rw [hlen]; exact h.m, fun x hx => ?_, h.pos, fun i x hi => ?_, by rw [hlen]; exact h.fst, h.f0, ?_, ?_⟩
  · obtain ⟨y, hy, e⟩ := List.mem_map.1 (show x ∈ S.es.map doneE from hx)
    have ho := h.ok y hy
    obtain ⟨d1, d2, d3, d4⟩ := done_l y
    rw [← e]
    exact ⟨d3.trans ho.n, by rw [d2]; exact ho.p, fun hb => by rw [d4] at hb; cases hb⟩
  · have hi2 : (S.es.map doneE)[i]? = some x := hi
    rw [List.getElem?_map] at hi2
    cases hy : S.es[i]? with
    | none => rw [hy] at hi2; cases hi2
    | some y =>
      rw [hy] at hi2
      injection hi2 with hi2
      rw [← hi2, (done_l y).1, hlen]
      exact h.lsn i y hy
  · exact wrW_done _ _
  · show 0 ≤ S.next - 1 ∧ S.next - 1 ≤ S.next - 1
    omega
/-- Freed below l: the first j go. -/
theorem LSane.free (h : LSane S) {l : Int} {j : Nat} (hj : j ≤ S.es.length) (hl : l = S.first + (j : Int)) (hall : S.es.map doneE = S.es) (hw : S.written = S.next - 1) : LSane (freeS S l j) := by
  have hlen : (freeS S l j).es.length = S.es.length - j := by show (S.es.drop j).length = _; simp
  have hm := h.m
  have hf := h.fst
  have h0 := h.f0
  have hall2 : (S.es.drop j).map doneE = S.es.drop j := by rw [List.map_drop, hall]
  refine ⟨h.nx, by omega, fun x hx => h.ok x (List.mem_of_mem_drop (show x ∈ S.es.drop j from hx)), h.pos, fun i x hi => ?_, ?_, ?_, ?_, h.sy⟩
  · have hi2 : (S.es.drop j)[i]? = some x := hi
    rw [List.getElem?_drop] at hi2
    have := h.lsn _ x hi2
    rw [hlen]
    show x.l = S.next - _ + _
    omega
  · rw [hlen]
    show l + _ = S.next
    omega
  · show 1 ≤ l
    omega
  · show wrW S.written (S.es.drop j) = S.next - 1
    rw [← hall2, wrW_done, hw]
theorem sync_all (S : Lg) : (syncS S).es.map doneE = (syncS S).es := by
  show (S.es.map doneE).map doneE = S.es.map doneE
  rw [List.map_map]
  refine List.map_congr_left fun x _ => ?_
  show doneE (doneE x) = doneE x
  have hb := (done_l x).2.2.2
  generalize doneE x = y at hb
  unfold doneE
  rw [if_pos hb]
theorem pend_snoc (es : List RE.En) (x : RE.En) : pendN (es ++ [x]) = pendN es + (if x.b then 0 else 1) := by
  unfold pendN
  rw [List.filter_append, List.length_append]
  cases hb : x.b <;> simp [hb]
theorem pend_done (es : List RE.En) : pendN (es.map doneE) = 0 := by
  unfold pendN
  rw [List.length_eq_zero_iff, List.filter_eq_nil_iff]
  intro x hx
  obtain ⟨y, _, e⟩ := List.mem_map.1 hx
  rw [← e, (done_l y).2.2.2]
  decide
end
section
variable {w0 W W' : World} {g d q N : Nat} {S : Lg} {bl : List (Nat × TypeId × Array Value)}
theorem s_used (h : LogAt w0 g d q N S bl W) (hs : LSane S) : Calls Tryz.prog 13 #[.pointer (some ⟨g, 0, none⟩)] W fun e w' => e = .returned (.int .i64 (3 * (S.es.length : Int))) ∧ LogAt w0 g d q N S bl w' :=
  (used_any h (fun x hx => (hs.ok x hx).n) (by have := hs.m; omega)).mono fun _ _ ⟨a, b⟩ => ⟨a, h.then_ b⟩
theorem s_pend (h : LogAt w0 g d q N S bl W) (hs : LSane S) : Calls Tryz.prog 14 #[.pointer (some ⟨g, 0, none⟩)] W fun e w' => e = .returned (.int .i64 (pendN S.es : Int)) ∧ LogAt w0 g d q N S bl w' :=
  (pending_any h (by have := hs.m; omega)).mono fun _ _ ⟨a, b⟩ => ⟨a, h.then_ b⟩
theorem s_fits (h : LogAt w0 g d q N S bl W) (hs : LSane S) (n : Int) : Calls Tryz.prog 17 #[.pointer (some ⟨g, 0, none⟩), .int .i64 n] W fun e w' => e = .returned (.bool (decide (n = 1) && decide (S.es.length ≤ 1))) ∧ LogAt w0 g d q N S bl w' :=
  (fits_any h (fun x hx => (hs.ok x hx).n) (by have := hs.m; omega) n).mono fun _ _ ⟨a, b⟩ => ⟨a, h.then_ b⟩
theorem s_sync (h : LogAt w0 g d q N S bl W) (hs : LSane S) (hN : N ≤ 8000000) : Calls Tryz.prog 18 #[.pointer (some ⟨g, 0, none⟩)] W fun e w' => e = .returned (.int .i64 0) ∧ LogAt w0 g d q (N + 96) (syncS S) bl w' :=
  (sync_any h hs.ok (by have := hs.m; omega) hN (S.next - 1) hs.wr hs.sy.2).mono fun _ _ ⟨a, b⟩ => ⟨a, b.up (by have := hs.m; omega)⟩
theorem s_add (h : LogAt w0 g d q N S bl W) (hs : LSane S) (hb : S.next ≤ 1000000) (A : Option Addr) (c : Nat) (xs : List RC.Im) (hI : RC.Ims W A 1 c xs) (hf : RC.Fits 9 S.next xs) (hm : S.es.length ≤ 1) :
    Calls Tryz.prog 10 #[.pointer (some ⟨g, 0, none⟩), .slice A 1 c] W fun e w' => e = .returned (.tuple #[.int .u64 S.next, .int .i64 0]) ∧ LogAt w0 g d q N (addS S xs) bl w' :=
  add_ok h A c xs hI hf ⟨hs.nx, hb⟩ (fun x hx => (hs.ok x hx).n) hm hs.pos
theorem s_add_full (h : LogAt w0 g d q N S bl W) (hs : LSane S) (hb : S.next ≤ 1000000) (A : Option Addr) (c : Nat) (xs : List RC.Im) (hI : RC.Ims W A 1 c xs) (hf : RC.Fits 9 S.next xs) (hm : ¬ S.es.length ≤ 1) :
    Calls Tryz.prog 10 #[.pointer (some ⟨g, 0, none⟩), .slice A 1 c] W fun e w' => e = .returned (.tuple #[.int .u64 0, .int .i64 10]) ∧ LogAt w0 g d q N S bl w' :=
  add_full h A c xs hI hf ⟨hs.nx, hb⟩ (fun x hx => (hs.ok x hx).n) (by have := hs.m; omega) (by omega)
/-- Free, behind a Sync: below first + j. -/
theorem s_free (h : LogAt w0 g d q N S bl W) (hs : LSane S) (hb : S.next ≤ 1000000) (l : Int) (j : Nat) (hj : j ≤ S.es.length) (hl : l = S.first + (j : Int)) (hw : S.written = S.next - 1) (hy : S.synced = S.next - 1) (hN : N ≤ 8000000) :
    Calls Tryz.prog 19 #[.pointer (some ⟨g, 0, none⟩), .int .u64 l] W fun e w' => e = .returned (.int .i64 0) ∧ LogAt w0 g d q (N + 16) (freeS S l j) bl w' := by
  have hf := hs.fst
  have h0 := hs.f0
  have hm := hs.m
  by_cases hz : j = 0
  · subst hz
    refine (free_low h l (by omega) (by omega) (by omega)).mono fun _ _ ⟨a, b⟩ => ⟨a, ?_⟩
    have e : freeS S l 0 = S := by
      have : l = S.first := by omega
      rw [this]
      rfl
    rw [e]
    exact b.up (by omega)
  · exact free_any h l j (by omega) (by omega) (by omega) (by omega) (by omega) hj (fun i x hi hx => by have := hs.lsn i x hx; omega) (fun x hx => by have := hs.lsn j x hx; omega) hs.ok hs.pos (by omega) hN
end
end Go.Proofs.YtakilnpfhljgfaaGreat.WL

/- commonslaw12.alive. No condition. -/
namespace Go.Proofs.YtakilnpfhljgfaaGreat.WL
set_option maxRecDepth 100000
open Go.RowKit Go.Proofs.YtakilnpfhljgfaaGreat.MI Go.Proofs.YtakilnpfhljgfaaGreat.WI Go.Proofs.YtakilnpfhljgfaaGreat.SM Go.Proofs.YtakilnpfhljgfaaGreat.DK Go.Proofs.YtakilnpfhljgfaaGreat.SU Go.Proofs.YtakilnpfhljgfaaGreat.BK
set_option linter.unusedVariables false
set_option linter.unusedSimpArgs false

section
variable {w0 W : World} {g d q N : Nat} {S : Lg} {bl : List (Nat × TypeId × Array Value)}
/-- Add of one image, which stands in a new block. -/
theorem add_new (h : LogAt w0 g d q N S bl W) (hs : LSane S) (hb : S.next ≤ 1000000) (hm : S.es.length ≤ 1) (n : Nat) (hn : n < 256) (v : Int) (hv : 0 ≤ v ∧ v ≤ 18446744073709551615) (T : ByteArray) (hT : RC.oneT n = T) :
    Calls Tryz.prog 10 #[.pointer (some ⟨g, 0, none⟩), .slice (some ⟨W.heap.size, 0, none⟩) 1 1] (W.alloc (.cells #[.int .i64 (n : Int), .int .u64 v, .string T] RC.TIm)) fun e w' => e = .returned (.tuple #[.int .u64 S.next, .int .i64 0]) ∧ LogAt w0 g d q N (addS S [RC.oneI n v]) bl w' :=
  s_add (h.alloc _) hs hb _ 1 [RC.oneI n v] (by rw [← hT]; exact RC.ims_one (Blk.new _ _ _) (RC.one_ok n hn v hv)) (RC.one_fits 9 S.next (by decide) (by have := hs.nx; omega) n hn v) hm
theorem one_new (n : Nat) (hn : n < 256) (v : Int) (T : ByteArray) (hT : RC.oneT n = T) (W : World) : Calls Tryz.prog 11 #[.int .i64 (n : Int), .int .u64 v] W fun x w' => x = .returned (.agg #[.int .i64 (n : Int), .int .u64 v, .string T]) ∧ Below W.heap.size W w' := by
  rw [← hT]
  exact RC.one_any n hn v W
end
def AQuiet (w : World) (e : Ending) (w' : World) : Prop := e = .returned (.bool true) ∧ Below w.heap.size w w'
set_option maxHeartbeats 8000000 in
theorem alive_any (w : World) : Calls Tryz.prog 7 #[] w (AQuiet w) := by
  have kr := fun W => ready_any W
  unfold ReadyOut at kr
  have F := fine_of dr_ready
  have hN0 := nr_le
  generalize DR = D0 at *
  generalize NR = N0 at *
  obtain ⟨T1, hT1⟩ : ∃ T, RC.oneT 1 = T := ⟨_, rfl⟩
  obtain ⟨T2, hT2⟩ : ∃ T, RC.oneT 2 = T := ⟨_, rfl⟩
  obtain ⟨S1, hS1⟩ : ∃ S, addS L0 [RC.oneI 1 1] = S := ⟨_, rfl⟩
  obtain ⟨S2, hS2⟩ : ∃ S, syncS S1 = S := ⟨_, rfl⟩
  obtain ⟨S3, hS3⟩ : ∃ S, addS S2 [RC.oneI 2 1] = S := ⟨_, rfl⟩
  have s1 : LSane S1 := hS1 ▸ sane0.add rfl (by decide)
  have s2 : LSane S2 := hS2 ▸ s1.sync
  have n1 : S1.next = 2 := by rw [← hS1]; rfl
  have m1 : S1.es.length = 1 := by rw [← hS1]; rfl
  have n2 : S2.next = 2 := by rw [← hS2]; exact n1
  have m2 : S2.es.length = 1 := by rw [← hS2]; show (S1.es.map doneE).length = 1; rw [List.length_map, m1]
  have y2 : S2.synced = 1 := by rw [← hS2]; show S1.next - 1 = 1; rw [n1]; rfl
  have p2 : pendN S2.es = 0 := by rw [← hS2]; exact pend_done _
  have s3 : LSane S3 := hS3 ▸ s2.add rfl (by omega)
  have n3 : S3.next = 3 := by rw [← hS3]; show S2.next + 1 = 3; rw [n2]; rfl
  have m3 : S3.es.length = 2 := by rw [← hS3]; show (S2.es ++ [_]).length = 2; rw [List.length_append, m2]; rfl
  have y3 : S3.synced = 1 := by rw [← hS3]; exact y2
  have p3 : pendN S3.es = 1 := by rw [← hS3]; show pendN (S2.es ++ [_]) = 1; rw [pend_snoc, p2]; rfl
  have ko := fun (W : World) (d : Nat) (bl : List (Nat × TypeId × Array Value)) (h : OwnL w d N0 D0 bl W) => open_any h F (by omega)
  have k1 : ∀ W, Calls Tryz.prog 11 #[.int .i64 1, .int .u64 1] W fun x w' => x = .returned (.agg #[.int .i64 1, .int .u64 1, .string T1]) ∧ Below W.heap.size W w' := fun W => one_new 1 (by decide) 1 T1 hT1 W
  have k2 : ∀ W, Calls Tryz.prog 11 #[.int .i64 2, .int .u64 1] W fun x w' => x = .returned (.agg #[.int .i64 2, .int .u64 1, .string T2]) ∧ Below W.heap.size W w' := fun W => one_new 2 (by decide) 1 T2 hT2 W
  have ka1 : ∀ (W : World) (g d q : Nat) (bl : List (Nat × TypeId × Array Value)), LogAt w g d q (N0 + 16) L0 bl W → Calls Tryz.prog 10 #[.pointer (some ⟨g, 0, none⟩), .slice (some ⟨W.heap.size, 0, none⟩) 1 1] (W.alloc (.cells #[.int .i64 1, .int .u64 1, .string T1] RC.TIm)) fun e w' => e = .returned (.tuple #[.int .u64 1, .int .i64 0]) ∧ LogAt w g d q (N0 + 16) S1 bl w' := fun W g d q bl h => by
    have := add_new h sane0 (by decide) (by decide) 1 (by decide) 1 (by decide) T1 hT1
    rw [hS1] at this
    exact this
  have ksy : ∀ (W : World) (g d q : Nat) (bl : List (Nat × TypeId × Array Value)), LogAt w g d q (N0 + 16) S1 bl W → Calls Tryz.prog 18 #[.pointer (some ⟨g, 0, none⟩)] W fun e w' => e = .returned (.int .i64 0) ∧ LogAt w g d q (N0 + 16 + 96) S2 bl w' := fun W g d q bl h => by
    have := s_sync h s1 (by omega)
    rw [hS2] at this
    exact this
  have ka2 : ∀ (W : World) (g d q : Nat) (bl : List (Nat × TypeId × Array Value)), LogAt w g d q (N0 + 16 + 96) S2 bl W → Calls Tryz.prog 10 #[.pointer (some ⟨g, 0, none⟩), .slice (some ⟨W.heap.size, 0, none⟩) 1 1] (W.alloc (.cells #[.int .i64 2, .int .u64 1, .string T2] RC.TIm)) fun e w' => e = .returned (.tuple #[.int .u64 2, .int .i64 0]) ∧ LogAt w g d q (N0 + 16 + 96) S3 bl w' := fun W g d q bl h => by
    have := add_new h s2 (by omega) (by omega) 2 (by decide) 1 (by decide) T2 hT2
    rw [hS3, n2] at this
    exact this
  have kq1 : ∀ (W : World) (g d q : Nat) (bl : List (Nat × TypeId × Array Value)), LogAt w g d q (N0 + 16 + 96) S3 bl W → Calls Tryz.prog 22 #[.pointer (some ⟨g, 0, none⟩)] W fun e w' => e = .returned (.int .u64 1) ∧ W = w' := fun W g d q bl h => by
    have := synced_any h
    rw [y3] at this
    exact this
  have kq2 : ∀ (W : World) (g d q : Nat) (bl : List (Nat × TypeId × Array Value)), LogAt w g d q (N0 + 16 + 96) S3 bl W → Calls Tryz.prog 12 #[.pointer (some ⟨g, 0, none⟩)] W fun e w' => e = .returned (.int .u64 3) ∧ W = w' := fun W g d q bl h => by
    have := next_any h
    rw [n3] at this
    exact this
  have kq3 : ∀ (W : World) (g d q : Nat) (bl : List (Nat × TypeId × Array Value)), LogAt w g d q (N0 + 16 + 96) S3 bl W → Calls Tryz.prog 13 #[.pointer (some ⟨g, 0, none⟩)] W fun e w' => e = .returned (.int .i64 6) ∧ LogAt w g d q (N0 + 16 + 96) S3 bl w' := fun W g d q bl h => by
    have := s_used h s3
    rw [m3] at this
    exact this
  have kq4 : ∀ (W : World) (g d q : Nat) (bl : List (Nat × TypeId × Array Value)), LogAt w g d q (N0 + 16 + 96) S3 bl W → Calls Tryz.prog 14 #[.pointer (some ⟨g, 0, none⟩)] W fun e w' => e = .returned (.int .i64 1) ∧ LogAt w g d q (N0 + 16 + 96) S3 bl w' := fun W g d q bl h => by
    have := s_pend h s3
    rw [p3] at this
    exact this
  unfold sagg sh0 at *
  have KO := Lib.hid ko
  have KA1 := Lib.hid ka1
  have KSY := Lib.hid ksy
  have KA2 := Lib.hid ka2
  have KQ1 := Lib.hid kq1
  have KQ2 := Lib.hid kq2
  have KQ3 := Lib.hid kq3
  have KQ4 := Lib.hid kq4
  clear ko ka1 ksy ka2 kq1 kq2 kq3 kq4 s1 s2 s3 n1 n2 n3 m1 m2 m3 y2 y3 p2 p3 hS1 hS2 hS3 hT1 hT2 F
  generalize L0 = S0 at *
  go_enter Tryz.func7, Tryz.ntmps7
  go_upto_region 2 with (go_at_call 8; refine (kr _).mono ?_; rintro x w1 ⟨d, r, p, C, rfl, hd, hb, _, _, _⟩; have H1 := Lib.hid (Own.toL (w0 := w) ⟨p, hd, hb⟩); clear hd hb kr)
  have h2 := H1.out.beside TLa #[.int .i64 2, .int .i64 10, .int .i64 8, .int .i64 4, .int .i64 32]
  obtain ⟨W2, hW2⟩ : ∃ W2, w1.alloc (.cells #[.int .i64 2, .int .i64 10, .int .i64 8, .int .i64 4, .int .i64 32] TLa) = W2 := ⟨_, rfl⟩
  rw [hW2] at h2 ⊢
  obtain ⟨x3, hx3⟩ : ∃ x, w1.heap.size = x := ⟨_, rfl⟩
  rw [hx3] at h2 ⊢
  have c0 : W2.cell? ⟨x3, 0, none⟩ = some (.int .i64 2) := h2.b0.cell 0
  have c1 : W2.cell? ⟨x3, 1, none⟩ = some (.int .i64 10) := h2.b0.cell 1
  have c2 : W2.cell? ⟨x3, 2, none⟩ = some (.int .i64 8) := h2.b0.cell 2
  have c3 : W2.cell? ⟨x3, 3, none⟩ = some (.int .i64 4) := h2.b0.cell 3
  have c4 : W2.cell? ⟨x3, 4, none⟩ = some (.int .i64 32) := h2.b0.cell 4
  have H2 := Lib.hid h2
  clear h2 hW2 hx3 H1
  go_upto_region 7 with (go_at_call 9; refine (KO.out _ _ _ H2.out).mono ?_; rintro x w3 ⟨g, q, rfl, h3⟩; have H3 := Lib.hid h3; clear h3)
  clear c0 c1 c2 c3 c4
  go_upto_region 8 with (first
    | (go_at_call 11; refine (k1 _).mono ?_; rintro x w4 ⟨rfl, hb⟩; have H4 := Lib.hid (H3.out.then_ hb); clear hb)
    | (go_at_call 10; refine (KA1.out _ _ _ _ _ H4.out).mono ?_; rintro x w5 ⟨rfl, h5⟩; have H5 := Lib.hid h5; clear h5))
  go_upto_region 9 with (go_at_call 18; refine (KSY.out _ _ _ _ _ H5.out).mono ?_; rintro x w6 ⟨rfl, h6⟩; have H6 := Lib.hid h6; clear h6)
  go_upto_region 10 with (first
    | (go_at_call 11; refine (k2 _).mono ?_; rintro x w7 ⟨rfl, hb⟩; have H7 := Lib.hid (H6.out.then_ hb); clear hb)
    | (go_at_call 10; refine (KA2.out _ _ _ _ _ H7.out).mono ?_; rintro x w8 ⟨rfl, h8⟩; have H8 := Lib.hid h8; clear h8))
  go_wp2_with (first
    | (go_at_call 22; refine (KQ1.out _ _ _ _ _ H8.out).mono ?_; rintro x w9 ⟨rfl, rfl⟩)
    | (go_at_call 12; refine (KQ2.out _ _ _ _ _ H8.out).mono ?_; rintro x w9 ⟨rfl, rfl⟩)
    | (go_at_call 13; refine (KQ3.out _ _ _ _ _ H8.out).mono ?_; rintro x w9 ⟨rfl, h9⟩; have H9 := Lib.hid h9; clear h9)
    | (go_at_call 14; refine (KQ4.out _ _ _ _ _ H9.out).mono ?_; rintro x w10 ⟨rfl, h10⟩; have H10 := Lib.hid h10; clear h10))
  exact end_ret (t := 0) (v := .bool true) (by kernel_rfl) rfl rfl ⟨rfl, H10.out.bel⟩
end Go.Proofs.YtakilnpfhljgfaaGreat.WL
