/- The disk: settle. No condition. -/
import Derived.Test.YtacogpogplionaaDk2
namespace Go.Proofs.Ytacogpogplionaa.DK
set_option maxRecDepth 100000
open Go.RowKit Go.Proofs.Ytacogpogplionaa.MI
set_option linter.unusedVariables false
set_option linter.unusedSimpArgs false

/-- What settle's rounds have: of the first k that waited. -/
structure SetRel (w : World) (lb n0 : Nat) (L : Int → Option Wr) (ws : List Wr) (n : Int) (k m : Nat) (a : Option Addr) (c : Nat) (wr : World) : Prop where
  len : m = ((ws.take k).filter (notN n)).length
  own : wr.ownsRow w.heap.size TW 4 (.slice a m c) m (((ws.take k).filter (notN n)).flatMap wval)
  map : ∃ q, q + m = n0 + k ∧ MapAt wcode Try.prog TI wr lb q (setL L ws n k)
  kp : Keeps (only lb) w wr
section
variable {w wr w2 : World} {lb n0 m : Nat} {L : Int → Option Wr} {ws : List Wr} {n : Int} {k : Nat} {a : Option Addr} {c : Nat} {x : Wr}
theorem SetRel.hit {q : Nat} (h : SetRel w lb n0 L ws n k m a c wr) (hx : ws[k]? = some x) (hn : x.n = n) (hm : q + m = n0 + k) {wb : World} (hb : Below wr.heap.size wr wb) (hk : KeepOut wb lb (q + 1) (keepL (setL L ws n k) x) w2) : SetRel w lb n0 L ws n (k + 1) m a c w2 := by
  have hf : (ws.take (k + 1)).filter (notN n) = (ws.take k).filter (notN n) := by
    rw [List.take_add_one, hx]; simp [notN, hn]
  have hlb : ∀ j, (Value.slice a m c).ownBlock = some j → ¬ only lb j := by
    intro j hj e
    obtain ⟨m', _, hm'⟩ := h.map
    obtain ⟨es, cl, ho⟩ := hm'.obj
    have := own_map_ne h.own ho
    unfold only at e
    subst e
    exact this hj
  refine ⟨by rw [hf]; exact h.len, ?_, ⟨q + 1, by omega, by rw [setL_succ_hit hx hn]; exact hk.1⟩, (h.kp.trans (Keeps.of_below hb (fun _ => False)) (fun _ _ h => h.elim)).trans hk.2 (fun _ _ h => h)⟩
  rw [hf]
  exact own_keeps (own_keeps h.own (Keeps.of_below hb (fun _ => False)) (fun _ _ h => h)) hk.2 hlb
theorem SetRel.miss {a2 : Option Addr} {c2 : Nat} (h : SetRel w lb n0 L ws n k m a c wr) (hx : ws[k]? = some x) (hn : ¬ x.n = n)
    {wb : World} (hb : Below wr.heap.size wr wb) (ho : w2.ownsRow w.heap.size TW 4 (.slice a2 (m + 1) c2) (m + 1) (((ws.take k).filter (notN n)).flatMap wval ++ wval x)) (hg : wb.grownBy w2 (Value.slice a 0 0).ownBlock) :
    SetRel w lb n0 L ws n (k + 1) (m + 1) a2 c2 w2 := by
  have hf : (ws.take (k + 1)).filter (notN n) = (ws.take k).filter (notN n) ++ [x] := by
    rw [List.take_add_one, hx]; simp [notN, hn]
  have hk : Keeps (fun j => (Value.slice a 0 0).ownBlock = some j) wr w2 := (Keeps.of_below hb (fun j => (Value.slice a 0 0).ownBlock = some j)).grown hg (fun _ e _ => e)
  obtain ⟨q, h1, h2⟩ := h.map
  obtain ⟨es, cl, hob⟩ := h2.obj
  have hne := own_map_ne h.own hob
  rw [own_blk] at hne
  refine ⟨by rw [hf]; simp [h.len], by rw [hf]; simpa using ho, ⟨q, by omega, by rw [setL_succ_miss hx hn]; exact h2.keeps hk hne⟩, h.kp.trans hk (fun j hj e => ?_)⟩
  have := (h.own.lt j (by rw [own_blk]; exact e)).1
  omega
end
theorem lies_one (w : World) (x : Wr) : Lies (w.alloc (.cells #[.int .i64 x.n, .int .i64 x.a, .int .i64 x.s, .string x.d] TW)) 4 (some ⟨w.heap.size, 0, none⟩) 1 (wval x) := by
  have := Lies.of_blk (Blk.new w TW #[.int .i64 x.n, .int .i64 x.a, .int .i64 x.s, .string x.d])
  exact ⟨rfl, fun _ => this.2 (by simp)⟩
theorem wval_one (x : Wr) : ∀ u ∈ wval x, u.oneCell' = true := by intro u hu; simp [wval] at hu; rcases hu with rfl | rfl | rfl | rfl <;> rfl
abbrev boxW (x : Wr) : Obj := .cells #[.int .i64 x.n, .int .i64 x.a, .int .i64 x.s, .string x.d] TW

section
variable {w w' : World} {B g N : Nat} {p : Pl} {D : Dk}
/-- The row of what waits is laid into the disk's block. -/
theorem settle_end {wr : World} {n0 m : Nat} {n : Int} {a : Option Addr} {c : Nat} (h : DiskAt w B g p N D) (hr : SetRel w p.lb n0 D.lasts D.waits n D.waits.length m a c wr) (hn0 : n0 + D.waits.length ≤ N) :
    wr.frozen? ⟨g, 5, none⟩ = false ∧ wr.cell? ⟨g, 5, none⟩ = some (.slice p.wa D.waits.length p.wc) ∧ DiskOut w B g p N (settleK D n) (wr.setCell ⟨g, 5, none⟩ (.slice a m c)) := by
  have hb := h.blk.keeps hr.kp (fun e => h.neGL e.symm)
  have hsz := hr.kp.size
  have hg := h.blk.lt
  have hm : (settleK D n).waits.length = m := by
    have := hr.len
    rw [List.take_length] at this
    exact this.symm
  have hnew : ∀ k, (Value.slice a m c).ownBlock = some k → w.heap.size ≤ k := fun k hk => (hr.own.lt k hk).1
  have hK : Keeps (fp g p) w (wr.setCell ⟨g, 5, none⟩ (.slice a m c)) := (hr.kp.mono (S' := fp g p) (fun k _ e => .inr (.inr (.inl e)))).setCell (p := ⟨g, 5, none⟩) (fun _ => .inl rfl) _
  have hK2 : Keeps (fun k => k = g ∨ k = p.lb) w (wr.setCell ⟨g, 5, none⟩ (.slice a m c)) := (hr.kp.mono (S' := fun k => k = g ∨ k = p.lb) (fun k _ e => .inr e)).setCell (p := ⟨g, 5, none⟩) (fun _ => .inl rfl) _
  have hb0 := h.base
  refine ⟨hb.frozen 5, hb.cell 5, { p with wa := a, wc := c }, ?_, hK, fun k hk => ?_, fun k hk => .inl hk⟩
  · obtain ⟨nn, hn1, hn2⟩ := h.now
    obtain ⟨q, hq, hmq⟩ := hr.map
    refine ⟨?_, ⟨nn, hn1, hn2.keeps hK2 (fun e => e.elim h.neGN h.ne)⟩, ⟨q, by rw [hm]; omega, ?_⟩, ?_, h.stays.keeps (by decide) hK2 (fun ad e hs => hs.elim (fun e' => h.far _ ⟨ad, e, rfl⟩ (.inl e')) (fun e' => h.far _ ⟨ad, e, rfl⟩ (.inr (.inr (.inl e'))))), h.sn, fun k hk1 hk2 => ?_, fun k hk => ⟨(h.spl k hk).1, Nat.lt_of_lt_of_le (h.spl k hk).2 hK.size⟩, h.geg, h.gen, h.gel, h.ne, h.seq, h.sane.settle n⟩
    · rw [hm]; exact hb.set_ 5 _
    · exact hmq.setCell h.neGL _
    · rw [hm]
      have ho := hr.own
      rw [List.take_length] at ho
      refine own_base (base := w.heap.size) ?_ (fun k hk => Nat.le_trans hb0 (hnew k hk))
      exact own_keeps ho (keep1 wr g 5 _) (fun k hk e => by have := hnew k hk; unfold only at e; omega)
    · rcases hk2 with e | e | e | e
      · exact h.far k hk1 (.inl e)
      · exact h.far k hk1 (.inr (.inl e))
      · exact h.far k hk1 (.inr (.inr (.inl e)))
      · have h1 := hnew k (by rw [own_blk]; exact e)
        have h2 := (h.spl k hk1).2
        omega
  · rcases hk with e | e | e | e
    · exact .inl (.inl e)
    · exact .inl (.inr (.inl e))
    · exact .inl (.inr (.inr (.inl e)))
    · exact .inr (hnew k (by rw [own_blk]; exact e))
set_option maxHeartbeats 4000000 in
theorem settle_any (h : DiskAt w B g p N D) (n : Int) (hN : N ≤ 1000000000) : Calls Try.prog 40 #[.pointer (some ⟨g, 0, none⟩), .int .i64 n] w fun e w' => e = .returned (.tuple #[]) ∧ DiskOut w B g p N (settleK D n) w' := by
  obtain ⟨i0, hi, hz0, hz1, hz2⟩ := info_parts infW
  obtain ⟨n0, hn0, hm0⟩ := h.lasts
  have c5 : w.cell? ⟨g, 5, none⟩ = some (.slice p.wa D.waits.length p.wc) := h.blk.cell 5
  have hc4 : w.cell? ⟨g, 4, none⟩ = some (.map (some p.lb)) := h.blk.cell 4
  have hl := Lies.of_own h.waits
  have hA : 0 < D.waits.length → ∃ b, p.wa = some ⟨b, 0, none⟩ ∧ b ≠ p.lb ∧ b < w.heap.size := by
    intro h0
    obtain ⟨b, cap, hv, _⟩ := h.waits.form h0
    injection hv with hv
    exact ⟨b, hv, (h.neW b (by rw [hv]; rfl)).2.2, h.lt b (.inr (.inr (.inr (by rw [hv]; rfl))))⟩
  have hS : SetRel w p.lb n0 D.lasts D.waits n 0 0 none 0 w := ⟨rfl, by simpa using World.ownsRow_nil _ _ _ _, ⟨n0, by simp, hm0⟩, Keeps.refl _ _⟩
  have H := Lib.hid h
  have HS := Lib.hid hS
  have HL := Lib.hid hl
  have HW : Hid (∀ r ∈ D.waits, WfI r.a) := Lib.hid fun r hr => wfA (h.sane.waits r hr).2
  have hg : g < w.heap.size := h.blk.lt
  have hne := h.neGL
  obtain ⟨len, hlen⟩ : ∃ len, D.waits.length = len := ⟨_, rfl⟩
  rw [hlen] at c5 hA hn0
  have HLEN := Lib.hid hlen
  have hcap : p.wc ≤ maxLen := by
    rcases h.waits.2 with ⟨h0, _⟩ | ⟨g', cap', cur, h0, _, _, h1, h2, _⟩
    · injection h0 with _ _ h0; rw [h0]; unfold maxLen; omega
    · injection h0 with _ _ h0; rw [h0]; exact h2
  clear h hS hl hm0 hlen
  go_enter Try.func40, Try.ntmps40
  go_wp2
  go_loopw [4, 12] (fun t i wr => ∃ k m a c, k ≤ len ∧ i = .int .i64 (k : Int) ∧ t = .slice a m c ∧ Hid (SetRel w p.lb n0 D.lasts D.waits n k m a c wr)) (fun _ i _ => len - (intOf i).toNat)
  case atStart => exact ⟨0, 0, none, 0, Nat.zero_le _, rfl, rfl, HS⟩
  case round =>
    obtain ⟨k, m, a, c, hk, rfl, rfl, HR⟩ := hrel
    by_cases hlt : k < len
    · obtain ⟨b, hb, hbl, hbw⟩ := hA (by omega)
      obtain ⟨x, hx⟩ : ∃ x, D.waits[k]? = some x := ⟨_, List.getElem?_eq_getElem (by rw [HLEN.out]; exact hlt)⟩
      have hl := HL.out
      rw [hb] at hl ⊢
      have hl2 : Lies wr 4 (some ⟨b, 0, none⟩) D.waits.length (D.waits.flatMap wval) := hl.keeps (by decide) HR.out.kp (fun ad e => by cases e; exact hbl)
      obtain ⟨x0, x1, x2, x3⟩ := lies4 hl2 hx rfl
      simp only [Nat.zero_add] at x0 x1 x2 x3
      have hcr : wr.cell? ⟨g, 4, none⟩ = some (.map (some p.lb)) := (HR.out.kp.cell (p := ⟨g, 4, none⟩) hg (fun e => hne e.symm)).trans hc4
      have hwx := HW.out x (List.mem_of_getElem? hx)
      have HX := Lib.hid hx
      obtain ⟨q, hq, hmq⟩ := HR.out.map
      have hm1 : m ≤ k := by rw [HR.out.len]; exact Nat.le_trans (List.length_filter_le _ _) (by rw [List.length_take]; omega)
      clear hx hl hl2
      by_cases hxn : x.n = n
      · have b1 : (x.n == n) = true := by simp [hxn]
        have hcA : (wr.alloc (boxW x)).cell? ⟨g, 4, none⟩ = some (.map (some p.lb)) := by rw [← hcr]; exact ((Keeps.refl (fun _ => False) wr).alloc _).cell (World.block_lt_of_cell? wr _ hcr) id
        have kk := keep_any (wr.alloc (boxW x)) g p.lb q _ x hcA (hmq.alloc _) hwx (by omega)
        have HXN := Lib.hid hxn
        clear hmq hxn
        go_wp2_with (go_at_call 55; (with_reducible refine kk.mono ?_); rintro e w2 ⟨rfl, ho⟩; have R2 := Lib.hid (HR.out.hit HX.out HXN.out hq ((Below.refl _ wr).alloc (Nat.le_refl _) _) ho); clear ho kk)
        go_roundw
        case rel => exact ⟨k + 1, m, a, c, by omega, by go_num, rfl, R2⟩
        case measure => simp [intOf]; omega
      · have b1 : (x.n == n) = false := by simp [hxn]
        have hs := HR.out.kp.size
        clear hmq
        have O2 := Lib.hid (own_keeps (w' := (wr.alloc (boxW x)).alloc (boxW x)) HR.out.own (((Keeps.refl (fun _ => False) wr).alloc _).alloc _) (fun _ _ h => h))
        have hL := lies_one (wr.alloc (boxW x)) x
        rw [show (wr.alloc (boxW x)).heap.size = wr.heap.size + 1 by simp] at hL
        have HL1 := Lib.hid hL
        have HXN := Lib.hid hxn
        clear hL hxn
        go_wp2_with (at_builtin; refine wpList_append_lie _ rfl _ _ 61 rfl w.heap.size 103 i0 _ 4 40 Try.underlying61 hi hz0 hz1 hz2 rfl (by decide) a m c _ rfl O2.out (some ⟨wr.heap.size + 1, 0, none⟩) 1 1 (wval x) rfl HL1.out (wval_one x) (by unfold maxLen; omega) (by omega) (by simp; omega) ?_; intro a2 c2 w2 ho2 hg2 hat2; have R2 := Lib.hid (HR.out.miss HX.out HXN.out (((Below.refl _ wr).alloc (Nat.le_refl _) _).alloc (by simp) _) ho2 hg2); clear ho2 hg2 hat2)
        go_roundw
        case rel => exact ⟨k + 1, m + 1, a2, c2, by omega, by go_num, rfl, R2⟩
        case measure => simp [intOf]; omega
    · obtain rfl : k = len := by omega
      rw [← HLEN.out] at HR hn0
      obtain ⟨f5, d5, ho⟩ := settle_end H.out HR.out hn0
      have HO := Lib.hid ho
      clear ho HR HL HS
      go_wp2
      refine bodyPost_end (results_none rfl _ _ _) rfl ?_
      exact ⟨rfl, HO.out⟩
end
end Go.Proofs.Ytacogpogplionaa.DK
