/- The disk: Cut, walked. No condition. -/
import Derived.Test.YtacogpogplionaaDk5
namespace Go.Proofs.Ytacogpogplionaa.DK
set_option maxRecDepth 100000
open Go.RowKit Go.Proofs.Ytacogpogplionaa.MI
set_option linter.unusedVariables false
set_option linter.unusedSimpArgs false

theorem lies1 {w : World} {b off n : Nat} {zs : List Int} (h : Lies w 1 (some ⟨b, off, none⟩) n (zs.map (Value.int .i64))) {k : Nat} (hk : k < n) : w.cell? ⟨b, off + k, none⟩ = some (.int .i64 (zs.getD k 0)) := by
  obtain ⟨ad, e, hc⟩ := h.2 (by omega)
  cases e
  have hl : k < zs.length := by have := h.1; simp at this; omega
  have := hc k (.int .i64 (zs.getD k 0)) (by rw [List.getElem?_map, List.getElem?_eq_getElem hl, List.getD_eq_getElem?_getD, List.getElem?_eq_getElem hl]; rfl)
  rw [← this]
  congr 1
  unfold Addr.add
  split <;> simp_all
section
variable {w w' : World} {B g N : Nat} {p : Pl} {D : Dk}
theorem cut_off (h : DiskAt w B g p N D) (hoff : D.on = false) (A : Option Addr) (m c : Nat) (keep : List Int) :
    Calls Try.prog 54 #[.pointer (some ⟨g, 0, none⟩), .slice A m c] w fun e w' => e = .returned (.int .i64 0) ∧ DiskOut w B g p N (cutK D keep) w' := by
  have ka := arm_any h (-1) (by decide) none 0 0 [] Lies.nil (by omega) (fun _ => ⟨rfl, rfl⟩)
  have hc : cutK D keep = armK D (-1) [] := by unfold cutK; rw [hoff]; rfl
  rw [hc]
  clear hc h
  go_enter Try.func54, Try.ntmps54
  go_wp2_with (first
    | (go_at_call 62; refine ka.mono ?_; rintro e w1 ⟨rfl, ho⟩; have HO := Lib.hid ho; have ko : Calls Try.prog 44 #[.pointer (some ⟨g, 0, none⟩)] w1 fun e w' => e = .returned (.bool false) ∧ w' = w1 := (by obtain ⟨p1, h1, _⟩ := HO.out; have := on_any h1; rwa [show (armK D (-1) []).on = false from hoff] at this); clear ho ka)
    | (go_at_call 44; refine ko.mono ?_; rintro e w2 ⟨rfl, rfl⟩))
  go_ret
  exact ⟨rfl, HO.out⟩

/-- What stands behind Arm, for the walk. -/
structure Ahead (w : World) (B g : Nat) (p : Pl) (N : Nat) (D : Dk) (A : Option Addr) (m : Nat) (keep : List Int) (w1 : World) (p1 : Pl) : Prop where
  at_ : DiskAt w1 B g p1 N (armK D (-1) [])
  k : Keeps (fp g p) w w1
  f : Grows w (fp g p) (fp g p1)
  s : Grows w (sp p) (sp p1)
  lies : Lies w1 1 A m (keep.map (Value.int .i64))
  far : ∀ ad, 0 < m → A = some ad → ad.block ≠ p1.lb
theorem ahead (h : DiskAt w B g p N D) {A : Option Addr} {m : Nat} {keep : List Int} (hl : Lies w 1 A m (keep.map (Value.int .i64))) (hfar : 0 < m → ∀ ad, A = some ad → ¬ fp g p ad.block) {w1 : World} (ho : DiskOut w B g p N (armK D (-1) []) w1) : ∃ p1, Ahead w B g p N D A m keep w1 p1 := by
  obtain ⟨p1, h1, k1, g1, s1⟩ := ho
  refine ⟨p1, h1, k1, g1, s1, (Nat.eq_zero_or_pos m).elim (fun e => ⟨hl.1, fun h => absurd h (by omega)⟩) (fun hm => hl.keeps (by decide) k1 (hfar hm)), fun ad hm e hb => ?_⟩
  have h2 := hl.lt (by decide) hm ad e
  rcases g1 p1.lb (.inr (.inr (.inl rfl))) with h3 | h3
  · exact hfar hm ad e (hb ▸ h3)
  · omega
theorem Ahead.facts {w1 : World} {p1 : Pl} {A : Option Addr} {m : Nat} {keep : List Int} (h : Ahead w B g p N D A m keep w1 p1) (hon : D.on = true) :
    w1.cell? ⟨g, 5, none⟩ = some (.slice p1.wa D.waits.length p1.wc) ∧ D.waits.length ≤ N ∧ (0 < D.waits.length → ∃ b, p1.wa = some ⟨b, 0, none⟩ ∧ b ≠ p1.lb) ∧ p1.lb ≠ g ∧ g < w1.heap.size ∧ p1.wc ≤ maxLen ∧ D.waits.length ≤ p1.wc ∧
      Hid (Calls Try.prog 44 #[.pointer (some ⟨g, 0, none⟩)] w1 fun e w' => e = .returned (.bool true) ∧ w1 = w') ∧
      ∃ n0, n0 + D.waits.length ≤ N ∧ Hid (CutRel w1 p1.lb n0 D.lasts D.waits keep 0 w1) := by
  obtain ⟨n0, hn0, hm0⟩ := h.at_.lasts
  have hc := own_caps h.at_.waits
  refine ⟨h.at_.blk.cell 5, ?_, fun h0 => ?_, h.at_.neGL, h.at_.blk.lt, hc.2.1, hc.1, Lib.hid ?_, n0, hn0, Lib.hid ⟨⟨n0, by omega, hm0⟩, Keeps.refl _ _⟩⟩
  · have : n0 + D.waits.length ≤ N := hn0
    omega
  · obtain ⟨b, cap, hv, _⟩ := h.at_.waits.form h0
    injection hv with hv
    exact ⟨b, hv, (h.at_.neW b (by rw [hv]; rfl)).2.2⟩
  · have := on_any h.at_
    rw [show (armK D (-1) []).on = true from hon] at this
    exact this.mono fun e w' ⟨h1, h2⟩ => ⟨h1, h2.symm⟩
set_option maxHeartbeats 4000000 in
theorem cut_on (h : DiskAt w B g p N D) (hon : D.on = true) (A : Option Addr) (m c : Nat) (keep : List Int) (hl : Lies w 1 A m (keep.map (Value.int .i64))) (hA : 0 < m → ∃ b off, A = some ⟨b, off, none⟩) (hfar : 0 < m → ∀ ad, A = some ad → ¬ fp g p ad.block) (hN : N ≤ 1000000000) :
    Calls Try.prog 54 #[.pointer (some ⟨g, 0, none⟩), .slice A m c] w fun e w' => e = .returned (.int .i64 (D.waits.length : Int)) ∧ DiskOut w B g p N (cutK D keep) w' := by
  have ka := arm_any h (-1) (by decide) none 0 0 [] Lies.nil (by omega) (fun _ => ⟨rfl, rfl⟩)
  have hah := fun w1 ho => ahead (w1 := w1) h hl hfar ho
  have HAH := Lib.hid hah
  have HON := Lib.hid hon
  have hkl : keep.length = m := by have := hl.1; simpa using this
  have HKL := Lib.hid hkl
  have HWF : Hid (∀ r ∈ D.waits, WfI r.a) := Lib.hid fun r hr => wfA (h.sane.waits r hr).2
  obtain ⟨len, hlen⟩ : ∃ len, D.waits.length = len := ⟨_, rfl⟩
  have HLEN := Lib.hid hlen
  rw [hlen]
  clear h hl hah hon hfar hkl hlen
  go_enter Try.func54, Try.ntmps54
  go_wp2_with (first
    | (go_at_call 62; refine ka.mono ?_; rintro e w1 ⟨rfl, ho⟩; obtain ⟨p1, ha⟩ := HAH.out w1 ho; obtain ⟨c5, i1, hW, hlg, hgw, hcap, hcap2, KO, n0, hn0, HC⟩ := ha.facts HON.out; rw [HLEN.out] at c5 i1 hW hcap2 hn0; have HA := Lib.hid ha; clear ho ka ha HAH)
    | (go_at_call 44; refine KO.out.mono ?_; rintro e w2 ⟨rfl, rfl⟩))
  go_loopw [6, 21] (fun _ i wr => ∃ k, k ≤ len ∧ i = .int .i64 (k : Int) ∧ Hid (CutRel w1 p1.lb n0 D.lasts D.waits keep k wr)) (fun _ i _ => len - (intOf i).toNat)
  case atStart => exact ⟨0, Nat.zero_le _, rfl, HC⟩
  case round =>
    obtain ⟨k, hk, rfl, HR⟩ := hrel
    by_cases hlt : k < len
    · obtain ⟨b, hb, hbl⟩ := hW (by omega)
      obtain ⟨x, hx⟩ : ∃ x, D.waits[k]? = some x := ⟨_, List.getElem?_eq_getElem (by rw [HLEN.out]; exact hlt)⟩
      have hl2 := (Lies.of_own HA.out.at_.waits).keeps (S := only p1.lb) (by decide) HR.out.kp (fun ad e => by rw [hb] at e; cases e; exact hbl)
      rw [hb] at hl2 ⊢
      obtain ⟨x0, x1, x2, x3⟩ := lies4 hl2 hx rfl
      simp only [Nat.zero_add] at x0 x1 x2 x3
      have hwx := HWF.out x (List.mem_of_getElem? hx)
      have hcr : wr.cell? ⟨g, 4, none⟩ = some (.map (some p1.lb)) := (HR.out.kp.cell (p := ⟨g, 4, none⟩) hgw (fun e => hlg e.symm)).trans (HA.out.at_.blk.cell 4)
      have HX := Lib.hid hx
      obtain ⟨q, hq, hmq⟩ := HR.out.map
      clear hx hl2
      by_cases hkm : k < m
      · obtain ⟨b2, off2, hA2⟩ := hA (by omega)
        have hl3 := HA.out.lies.keeps (by decide) HR.out.kp (fun ad e => HA.out.far ad (by omega) e)
        rw [hA2] at hl3
        have y00 := lies1 hl3 hkm
        obtain ⟨z, hz⟩ : ∃ z, keep.getD k 0 = z := ⟨_, rfl⟩
        rw [hz] at y00
        have y0 : ∀ o, (wr.alloc o).cell? ⟨b2, off2 + k, none⟩ = some (.int .i64 z) := fun o => by rw [← y00]; exact ((Keeps.refl (fun _ => False) wr).alloc o).cell (World.block_lt_of_cell? wr _ y00) id
        rw [hA2]
        have b1 : decide ((k : Int) < (m : Int)) = true := by simp; omega
        have hst : staysB keep k = oddB z := by unfold staysB; rw [HKL.out, hz]; simp [hkm]
        have HST := Lib.hid hst
        clear hl3 hz hst y00
        cases hod : oddB z
        · rw [hod] at HST
          have b2 : (bits BinOp.and IntKind.i64 z 1 == 1) = false := hod
          have R2 := Lib.hid (HR.out.miss (w2 := wr.alloc (boxW x)) HST.out ((Below.refl _ wr).alloc (Nat.le_refl _) _))
          clear hmq hod
          go_wp2_with fail
          go_roundw
          case rel => exact ⟨k + 1, by omega, by go_num, R2⟩
          case measure => simp [intOf]; omega
        · rw [hod] at HST
          have b2 : (bits BinOp.and IntKind.i64 z 1 == 1) = true := hod
          have hcA : (wr.alloc (boxW x)).cell? ⟨g, 4, none⟩ = some (.map (some p1.lb)) := by rw [← hcr]; exact ((Keeps.refl (fun _ => False) wr).alloc _).cell (World.block_lt_of_cell? wr _ hcr) id
          have kk := keep_any (wr.alloc (boxW x)) g p1.lb q _ x hcA (hmq.alloc _) hwx (by omega)
          clear hmq hod
          go_wp2_with (go_at_call 55; (with_reducible refine kk.mono ?_); rintro e w2 ⟨rfl, ho⟩; have R2 := Lib.hid (HR.out.hit HX.out HST.out hq ((Below.refl _ wr).alloc (Nat.le_refl _) _) ho); clear ho kk)
          go_roundw
          case rel => exact ⟨k + 1, by omega, by go_num, R2⟩
          case measure => simp [intOf]; omega
      · have b1 : decide ((k : Int) < (m : Int)) = false := by simp; omega
        have hst : staysB keep k = false := by unfold staysB; rw [HKL.out]; simp [hkm]
        have R2 := Lib.hid (HR.out.miss (w2 := wr.alloc (boxW x)) hst ((Below.refl _ wr).alloc (Nat.le_refl _) _))
        clear hmq hst
        go_wp2_with fail
        go_roundw
        case rel => exact ⟨k + 1, by omega, by go_num, R2⟩
        case measure => simp [intOf]; omega
    · obtain rfl : k = len := by omega
      have hcr := HR.out
      rw [← HLEN.out] at hcr
      obtain ⟨q, hq, hmq⟩ := hcr.map
      have hqN : q ≤ N := by have := HLEN.out; omega
      obtain ⟨hmid, m1, m2, m3, m4, m5⟩ := mid_at HA.out.at_ hcr.kp hmq
      have f1 := fun o => (hmid o).1; have f3 := fun o => (hmid o).2.1; have d1 := fun o => (hmid o).2.2.1; have d3 := fun o => (hmid o).2.2.2.1; have d4 := fun o => (hmid o).2.2.2.2
      have HM1 := Lib.hid m1
      have HM2 := Lib.hid m2
      have HKP := Lib.hid hcr.kp
      have HMQ := Lib.hid hmq
      have HM4 := Lib.hid m4
      have HLT : Hid (p1.lb < (midW wr g).heap.size ∧ wr.heap.size < (midW wr g).heap.size) := Lib.hid ⟨m1.lt, m2.lt⟩
      have HB := Lib.hid m5
      have hgn : g ≠ wr.heap.size ∧ g ≠ (midW wr g).heap.size := by
        have h1 := hcr.kp.size
        have h2 : (midW wr g).heap.size = wr.heap.size + 1 := by simp [midW, World.setCell]
        omega
      have HGN := Lib.hid hgn
      have hmm := @run_makeMap Try.prog
      clear hcr m1 m2 m3 m4 m5 hmq hmid hgn
      go_wp2_with (at_range; refine wp_range _ rfl _ 60 rfl TI TW underI underL p1.lb q _ rfl (show MapAt wcode Try.prog TI _ p1.lb q _ from HM1.out) ?_; intro w3 cnt hcq hrg hg3 hs3)
      go_frame
      have h2 : Cut2 w3 p1.lb wr.heap.size (midW wr g).heap.size q (cutL D.lasts D.waits keep D.waits.length) (fun x => ((cutL D.lasts D.waits keep D.waits.length) x).isSome) cnt w3 :=
        ⟨hrg, ⟨0, fun _ => none, by omega, HM2.out.keeps (S := fun _ => False) ((Keeps.refl _ _).grown hg3 (fun k e _ => by cases e)) id, fun x _ => by
          unfold dataOf
          cases cutL D.lasts D.waits keep D.waits.length x <;> simp⟩, Keeps.refl _ _, HM4.out, by have := HLT.out; omega⟩
      have H2 := Lib.hid h2
      have HB3 := Lib.hid (show Blk w3 g TD _ from HB.out.grown hg3 (by simp))
      have HG3 := Lib.hid (show (midW wr g).grownBy w3 none from hg3)
      have HS3 := Lib.hid (show w3.heap.size = (midW wr g).heap.size + 1 from hs3)
      clear h2 hg3 hs3 hrg f1 f3 d1 d3 d4 hmm
      obtain ⟨r, hr⟩ : ∃ r, (midW wr g).heap.size = r := ⟨_, rfl⟩
      have hr' : (((wr.alloc (Obj.map #[] 0)).setCell ⟨g, 1, none⟩ (.bool false)).setCell ⟨g, 3, none⟩ (.map (some wr.heap.size))).heap.size = r := hr
      rw [hr'] 
      rw [hr] at H2 HLT HGN HS3
      have HW3 := Lib.hid hr
      clear hr hr'
      obtain ⟨v1, hv1⟩ : ∃ v1, v1 = wr := ⟨_, rfl⟩
      subst hv1
      go_loopw [54] (fun _ wv => ∃ left cnt, Hid (Cut2 w3 p1.lb v1.heap.size r q (cutL D.lasts D.waits keep D.waits.length) left cnt wv)) (fun _ wv => wv.rangeLeft p1.lb r)
      case atStart => exact ⟨_, _, H2⟩
      case round =>
        obtain ⟨left, cnt, HV⟩ := hrel
        go_wp2_with (at_next; refine wp_next _ rfl _ rfl TI underI p1.lb r q _ left cnt rfl HV.out.rg ?_ ?_)
        · intro hc0 hl0
          have he := cut_end (keep := keep) HA.out.at_ HON.out ⟨rfl, rfl, rfl⟩ HKP.out hqN HMQ.out HG3.out (by rw [HW3.out]; exact HS3.out) (by rw [HW3.out]; exact HV.out) hl0
          obtain ⟨f5, d5, ho⟩ := he
          have HO := Lib.hid (DiskOut.comp HA.out.k HA.out.f HA.out.s ho)
          clear ho
          rw [show (armK D (-1) []).waits.length = D.waits.length from rfl, HLEN.out] at d5
          clear HV H2 HC HR hl0
          go_wp2
          go_ret
          exact ⟨rfl, HO.out⟩
        · intro x c w4 cnt' hwx hlx hLx hrg1 hlt1 hg1 hs1 hen
          obtain ⟨j, F, hj, hmF, hF⟩ := HV.out.mpG hg1
          have hB4 : Blk w4 g TD _ := (HB3.out.keeps HV.out.kp (by have := HGN.out; rintro (e | e) <;> omega)).grown hg1 (by have := HGN.out; intro e; injection e with e; omega)
          obtain ⟨cn, ca, cs, cd⟩ := c
          have hen' : (Instr.entry (.pointer (some ⟨r, 0, none⟩))).run Try.prog w4 = .ok (.tuple #[.int .i64 x, .agg #[.int .i64 cn, .int .i64 ca, .int .i64 cs, .string cd]]) w4 := hen
          obtain ⟨W5, hW5⟩ : ∃ W5, w4.alloc (.cells #[.int .i64 cn, .int .i64 ca, .int .i64 cs, .string cd] 103) = W5 := ⟨_, rfl⟩
          have b5 : Blk W5 w4.heap.size TW #[.int .i64 cn, .int .i64 ca, .int .i64 cs, .string cd] := by rw [← hW5]; exact Blk.new _ _ _
          have g5 : W5.cell? ⟨g, 3, none⟩ = some (.map (some v1.heap.size)) := by rw [← hW5]; exact (hB4.alloc _).cell 3
          have M5 : MapAt scode Try.prog TI W5 v1.heap.size j F := by rw [← hW5]; exact hmF.alloc _
          have HM5 := Lib.hid M5
          have hst := fun (w5 : World) (h5 : MapAt scode Try.prog TI w5 v1.heap.size (j + 1) (putF F x cd)) (hg5 : W5.drew.grownBy w5 (some v1.heap.size)) => HV.out.step (c := ⟨cn, ca, cs, cd⟩) hwx hlx hLx hrg1 hlt1 hg1 (.cells #[.int .i64 cn, .int .i64 ca, .int .i64 cs, .string cd] 103) hj hF h5 (by rw [hW5]; exact hg5)
          have HST := Lib.hid hst
          have e1 := HV.out.rg.left_eq
          have e3 := b5.cell 3
          have e0 := b5.cell 0
          have e10 := b5.cell 1
          have e20 := b5.cell 2
          have hjq : j ≤ 1000000000 := by omega
          have HX := Lib.hid hwx
          clear hst hwx hlx hLx hrg1 hg1 hs1 hen hB4 hmF hF hj M5 b5 H2 HR HC
          go_wp2_with fail
          go_still_tail 7, (by kernel_rfl)
          go_wp2_with (at_mapUpdate; refine wp_store _ rfl _ _ _ 59 rfl TI 9 underI underN v1.heap.size j F rfl (show MapAt scode Try.prog TI _ v1.heap.size j F from HM5.out.drew) (by unfold maxLen; omega) x cd rfl HX.out rfl ?_; intro w5 hm5 hg5; have R5 := Lib.hid (HST.out w5 hm5 hg5); clear hm5 hg5)
          go_frame
          go_roundw
          case rel => exact ⟨_, _, R5⟩
          case measure => rw [R5.out.rg.left_eq, e1]; exact hlt1
end
end Go.Proofs.Ytacogpogplionaa.DK

