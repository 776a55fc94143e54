/- Part 3 of the texts that the proof stands on, joined: Bk1, Bk2, Bk3, Bk4, Bk7, Bk8, Rd6, Zeros, Rd7, Rd10, Rd11, Rd8, Rd9, DkNil, Bk10. No condition. -/
import Derived.Test.YtcbhdggjcelmaaaGreatM2
import Derived.Laws.StructEq
import Derived.Laws.IdiomCopy
import Derived.Lib.AppendStr
/- block: images, Right, zero, Pad, sector, Put. No condition. -/
namespace Go.Proofs.YtcbhdggjcelmaaaGreat.BK
set_option maxRecDepth 100000
open Go.RowKit Go.Proofs.YtcbhdggjcelmaaaGreat.WI Go.Proofs.YtcbhdggjcelmaaaGreat.SM
set_option linter.unusedVariables false
set_option linter.unusedSimpArgs false

abbrev TIm : TypeId := 24
structure Im where
  b : Int
  v : Int
  d : ByteArray
def icells (x : Im) : Array Value := #[.int .i64 x.b, .int .u64 x.v, .string x.d]
def iagg (x : Im) : Value := .agg #[.int .i64 x.b, .int .u64 x.v, .string x.d]
abbrev im0 : Im := ⟨0, 0, ⟨#[]⟩⟩
def rightB (x : Im) : Bool := decide (0 ≤ x.b) && decide (x.b < 4096) && decide (x.d.size = 96)
/-- An image that came in. -/
structure ImOk (x : Im) : Prop where
  b : -9223372036854775808 ≤ x.b ∧ x.b ≤ 9223372036854775807
  v : 0 ≤ x.v ∧ x.v ≤ 18446744073709551615
  d : x.d.size ≤ 9223372036854775807
/-- An image that may be. -/
structure Good (x : Im) : Prop where
  b : 0 ≤ x.b ∧ x.b < 4096
  v : 0 ≤ x.v ∧ x.v ≤ 18446744073709551615
  d : x.d.size = 96
theorem right_iff {x : Im} (h : ImOk x) : rightB x = true ↔ Good x := by
  unfold rightB
  simp only [Bool.and_eq_true, decide_eq_true_eq]
  exact ⟨fun ⟨⟨a, b⟩, c⟩ => ⟨⟨a, b⟩, h.v, c⟩, fun g => ⟨⟨g.b.1, g.b.2⟩, g.d⟩⟩
theorem Good.ok {x : Im} (h : Good x) : ImOk x := ⟨by have := h.b; omega, h.v, by have := h.d; omega⟩
theorem right_any (x : Im) (w : World) (hx : ImOk x) : Calls Tryz.prog 50 #[iagg x] w fun e w' => e = .returned (.bool (rightB x)) ∧ Below w.heap.size w w' := by
  obtain ⟨b, v, d⟩ := x
  have h1 := hx.b
  have h3 := hx.d
  dsimp only at h1 h3
  unfold rightB iagg
  dsimp only
  obtain ⟨s, hs⟩ : ∃ s, d.size = s := ⟨_, rfl⟩
  have hd := fun w => (Below.refl _ w).alloc (Nat.le_refl _) (.cells #[.int .i64 b, .int .u64 v, .string d] TIm)
  rw [hs] at h3 ⊢
  clear hx
  by_cases b1 : 0 ≤ b
  · by_cases b2 : b < 4096
    · have c1 : decide (0 ≤ b) = true := by simpa using b1
      have c2 : decide (b < 4096) = true := by simpa using b2
      by_cases b3 : s = 96
      · have c3 : ((s : Int) == 96) = true := by simp; omega
        have r : (decide (0 ≤ b) && decide (b < 4096) && decide (s = 96)) = true := by simp [b1, b2, b3]
        rw [r]
        clear r b3 b1 b2
        go_enter Tryz.func50, Tryz.ntmps50
        go_wp2
        go_ret
        exact ⟨ret_bool (by first | rfl | simp), hd w⟩
      · have c3 : ((s : Int) == 96) = false := by simp; omega
        have r : (decide (0 ≤ b) && decide (b < 4096) && decide (s = 96)) = false := by simp [b3]
        rw [r]
        clear r b3 b1 b2
        go_enter Tryz.func50, Tryz.ntmps50
        go_wp2
        go_ret
        exact ⟨ret_bool (by first | rfl | simp), hd w⟩
    · have c1 : decide (0 ≤ b) = true := by simpa using b1
      have c2 : decide (b < 4096) = false := by simpa using b2
      have r : (decide (0 ≤ b) && decide (b < 4096) && decide (s = 96)) = false := by simp [b2]
      rw [r]
      clear r b1 b2
      go_enter Tryz.func50, Tryz.ntmps50
      go_wp2
      go_ret
      exact ⟨ret_bool (by first | rfl | simp), hd w⟩
  · have c1 : decide (0 ≤ b) = false := by simpa using b1
    have r : (decide (0 ≤ b) && decide (b < 4096) && decide (s = 96)) = false := by simp [b1]
    rw [r]
    clear r b1
    go_enter Tryz.func50, Tryz.ntmps50
    go_wp2
    go_ret
    exact ⟨ret_bool (by first | rfl | simp), hd w⟩

theorem zero_any (n : Nat) (h : n ≤ 1000) (w : World) : Calls Tryz.prog 31 #[.int .i64 (n : Int)] w fun e w' => e = .returned (.string (zerosT n)) ∧ Below w.heap.size w w' := by
  have kr := Tryz.strings_Repeat (ByteArray.mk #[0]) n w (by omega) (by show 1 * _ ≤ _; omega)
  have kr2 : Calls Tryz.prog 56 #[.string (ByteArray.mk #[0]), .int .i64 (n : Int)] w fun e w' => e = .returned (.string (zerosT n)) ∧ Below w.heap.size w w' := kr
  clear kr
  go_enter Tryz.func31, Tryz.ntmps31
  go_wp2_with (go_at_call 56; refine kr2.mono ?_; rintro x w1 ⟨rfl, hb1⟩; have H1 := Lib.hid hb1; clear hb1)
  exact end_ret (t := 2) (v := .string (zerosT n)) (by kernel_rfl) rfl rfl ⟨rfl, H1.out⟩
theorem pad_long (s : ByteArray) (h : 96 < s.size) (w : World) : Calls Tryz.prog 10 #[.string s] w fun e w' => e = .returned (.tuple #[.string ⟨#[]⟩, .int .i64 2]) ∧ Below w.heap.size w w' := by
  have c1 : decide ((96 : Int) < (s.size : Int)) = true := by simp; omega
  clear h
  go_enter Tryz.func10, Tryz.ntmps10
  go_wp2_with fail
  go_ret2
  exact ⟨rfl, belowSame w⟩
def fillT (s : ByteArray) : ByteArray := s ++ zerosT (96 - s.size)
theorem fillT_size (s : ByteArray) (h : s.size ≤ 96) : (fillT s).size = 96 := by
  unfold fillT
  rw [ByteArray.size_append, zerosT_size]
  omega
theorem pad_ok (s : ByteArray) (h : s.size ≤ 96) (w : World) : Calls Tryz.prog 10 #[.string s] w fun e w' => e = .returned (.tuple #[.string (fillT s), .int .i64 0]) ∧ Below w.heap.size w w' := by
  have kz := zero_any (96 - s.size) (by omega) w
  rw [show ((96 - s.size : Nat) : Int) = 96 - (s.size : Int) by omega] at kz
  have hfs := fillT_size s h
  have c1 : decide ((96 : Int) < (s.size : Int)) = false := by simp; omega
  obtain ⟨Z, hZ⟩ : ∃ Z, zerosT (96 - s.size) = Z := ⟨_, rfl⟩
  have hf : fillT s = s ++ Z := by rw [← hZ]; rfl
  rw [hf] at hfs ⊢
  rw [ByteArray.size_append] at hfs
  rw [hZ] at kz
  have c2 : ¬ 9223372036854775807 < s.size + Z.size := by omega
  have e1 : IntKind.i64.wrap (96 - (s.size : Int)) = 96 - (s.size : Int) := IntWalk.i64_in _ (by omega)
  clear hf hZ h hfs
  go_enter Tryz.func10, Tryz.ntmps10
  go_wp2_with (go_at_call 31; refine kz.mono ?_; rintro x w1 ⟨rfl, hb1⟩; have H1 := Lib.hid hb1; clear hb1)
  go_ret2
  exact ⟨rfl, H1.out⟩
/-- The numbers of one sector of an image, and the sector. -/
def numsT (x : Im) : ByteArray := strOfNums (([] ++ lowB x.b 4) ++ lowB x.v 8)
theorem numsT_size (x : Im) : (numsT x).size = 12 := by unfold numsT; rw [strOf_size]; simp [lowB_len]
def halfT (x : Im) (k : Nat) : ByteArray := x.d.extract (k * 48) ((k + 1) * 48)
def secB (x : Im) (k : Nat) : ByteArray := halfT x k ++ numsT x
def secT (x : Im) (k : Nat) : ByteArray := stampT (secB x k) 64
theorem halfT_size {x : Im} (h : x.d.size = 96) {k : Nat} (hk : k < 2) : (halfT x k).size = 48 := by unfold halfT; rw [ByteArray.size_extract]; omega
theorem secB_size {x : Im} (h : x.d.size = 96) {k : Nat} (hk : k < 2) : (secB x k).size = 60 := by unfold secB; rw [ByteArray.size_append, halfT_size h hk, numsT_size]
set_option maxHeartbeats 4000000 in
theorem sector_any (x : Im) (hg : Good x) (k : Nat) (hk : k < 2) (w : World) :
    Calls Tryz.prog 51 #[iagg x, .int .i64 (k : Int)] w fun e w' => e = .returned (.tuple #[.string (secT x k), .int .i64 0]) ∧ Below w.heap.size w w' := by
  have ks := fun W => stamp_ok (secB x k) 64 (by omega) (by omega) (by rw [secB_size hg.d hk]; omega) W
  have hB : secB x k = halfT x k ++ numsT x := rfl
  have hT : secT x k = stampT (secB x k) 64 := rfl
  have hhs := halfT_size hg.d hk
  have hns := numsT_size x
  have wb : IntKind.u64.wrap x.b = x.b := IntWalk.u64_in _ (by have := hg.b; omega)
  have e1 : IntKind.i64.wrap ((k : Int) * 48) = (k : Int) * 48 := IntWalk.i64_in _ (by omega)
  have e2 : IntKind.i64.wrap ((k : Int) + 1) = (k : Int) + 1 := IntWalk.i64_in _ (by omega)
  have e3 : IntKind.i64.wrap (((k : Int) + 1) * 48) = ((k : Int) + 1) * 48 := IntWalk.i64_in _ (by omega)
  have hsl : ∀ w : World, (Instr.slice 9 (.string x.d) (some (.int .i64 ((k : Int) * 48))) (some (.int .i64 (((k : Int) + 1) * 48))) none).run Tryz.prog w = .ok (.string (halfT x k)) w := fun w => by
    rw [run_slice_string (P := Tryz.prog) w _ x.d .i64 .i64 ((k : Int) * 48) (((k : Int) + 1) * 48) Tryz.underlying9 (by omega) (by omega) (by rw [hg.d]; omega)]
    rw [show ((k : Int) * 48).toNat = k * 48 by omega, show (((k : Int) + 1) * 48).toNat = (k + 1) * 48 by omega]
    rfl
  rw [hT]
  obtain ⟨T, hTT⟩ : ∃ T, stampT (secB x k) 64 = T := ⟨_, rfl⟩
  rw [hTT] at ks ⊢
  rw [hB] at ks
  obtain ⟨U, hU⟩ : ∃ U, numsT x = U := ⟨_, rfl⟩
  obtain ⟨V, hV⟩ : ∃ V, halfT x k = V := ⟨_, rfl⟩
  rw [hU] at ks hns
  rw [hV] at ks hsl hhs
  have HU := Lib.hid hU
  have hz2 : ¬ 9223372036854775807 < V.size + U.size := by omega
  have HG := Lib.hid hg
  clear hB hT hTT hU hV hhs hns hg hk
  unfold iagg
  go_enter Tryz.func51, Tryz.ntmps51
  go_upto_region 2 with fail
  have hW := wr_new (w.alloc (.cells #[.int .i64 x.b, .int .u64 x.v, .string x.d] TIm))
  have hb1 := Blk.new w TIm #[.int .i64 x.b, .int .u64 x.v, .string x.d]
  have hsz1 : (w.alloc (.cells #[.int .i64 x.b, .int .u64 x.v, .string x.d] TIm)).heap.size = w.heap.size + 1 := by simp
  have hbl : Below w.heap.size w (w.alloc (.cells #[.int .i64 x.b, .int .u64 x.v, .string x.d] TIm)) := (Below.refl _ w).alloc (Nat.le_refl _) _
  rw [hsz1] at hW
  obtain ⟨W1, hW1⟩ : ∃ W1, w.alloc (.cells #[.int .i64 x.b, .int .u64 x.v, .string x.d] TIm) = W1 := ⟨_, rfl⟩
  rw [hW1] at hW hb1 hbl ⊢
  obtain ⟨W2, hW2⟩ : ∃ W2, W1.alloc (.cells #[.slice none 0 0, .int .i64 0] 121) = W2 := ⟨_, rfl⟩
  rw [hW2] at hW ⊢
  obtain ⟨g, hgg⟩ : ∃ g, w.heap.size + 1 = g := ⟨_, rfl⟩
  rw [hgg] at hW ⊢
  obtain ⟨x0, hx0⟩ : ∃ x, w.heap.size = x := ⟨_, rfl⟩
  rw [hx0] at hb1 hgg ⊢
  have hxg : x0 < g := by omega
  have C0 : Hid (W1.cell? ⟨x0, 0, none⟩ = some (.int .i64 x.b)) := Lib.hid (hb1.cell 0)
  have C1 : Hid (W1.cell? ⟨x0, 1, none⟩ = some (.int .u64 x.v)) := Lib.hid (hb1.cell 1)
  have C2 : Hid (W1.cell? ⟨x0, 2, none⟩ = some (.string x.d)) := Lib.hid (hb1.cell 2)
  have t0 := hW.cell hxg C0.out
  have t1 := hW.cell hxg C1.out
  have k1 := num_4 hW.drew (by simp) x.b HG.out.b.1 (by have := HG.out.b; omega)
  have HBL := Lib.hid hbl
  have HGG : Hid (w.heap.size ≤ g) := Lib.hid (by omega)
  clear hW hb1 hsz1 hbl hW1 hW2 hgg hx0
  go_region_held3 (fun W => W.cell? ⟨x0, 0, none⟩ = some (.int .i64 x.b) ∧ W.cell? ⟨x0, 1, none⟩ = some (.int .u64 x.v)) (go_keep) (first
    | (go_at_call 75; (with_reducible refine k1.mono ?_); rintro e w3 ⟨rfl, h3⟩; have s0 := h3.cell hxg C0.out; have s1 := h3.cell hxg C1.out; have k2 := num_8 h3 (by simp [lowB_len]) x.v HG.out.v.1 HG.out.v.2; clear k1 h3)
    | (go_at_call 75; (with_reducible refine k2.mono ?_); rintro e w4 ⟨rfl, h4⟩; have s0 := h4.cell hxg C0.out; have s1 := h4.cell hxg C1.out; have s2 := h4.cell hxg C2.out; have k4 := bytes_any h4 (by simp [lowB_len]); rw [show strOfNums _ = U from HU.out] at k4; have H5 := Lib.hid h4.bel; clear k2 h4)
    | (go_at_call 76; (with_reducible refine k4.mono ?_); rintro e w6 ⟨rfl, rfl⟩; clear k4))
  go_wp2_with (go_at_call 77; refine (ks _).mono ?_; rintro e w7 ⟨rfl, h7⟩; have H7 := Lib.hid h7; clear h7)
  go_ret2
  have hA := HBL.out.trans (H5.out.mono HGG.out)
  exact ⟨rfl, hA.trans (H7.out.mono hA.size)⟩
/-- An image's bytes. -/
def putT (x : Im) : ByteArray := secT x 0 ++ secT x 1
def putP (x : Im) : Nat → ByteArray
  | 0 => ⟨#[]⟩
  | k + 1 => putP x k ++ secT x k
theorem secT_size {x : Im} (h : x.d.size = 96) {k : Nat} (hk : k < 2) : (secT x k).size = 64 := (read_stamp (secB x k) 64 (by omega) (by rw [secB_size h hk]; omega)).1
theorem putP_size {x : Im} (h : x.d.size = 96) {k : Nat} (hk : k ≤ 2) : (putP x k).size = 64 * k := by
  induction k with
  | zero => rfl
  | succ k ih => unfold putP; rw [ByteArray.size_append, ih (by omega), secT_size h (by omega)]; omega
theorem putP_two (x : Im) : putP x 2 = putT x := by
  show ((⟨#[]⟩ : ByteArray) ++ secT x 0) ++ secT x 1 = _
  rw [show (⟨#[]⟩ : ByteArray) ++ secT x 0 = secT x 0 from ByteArray.empty_append]
  rfl
theorem putT_size {x : Im} (h : x.d.size = 96) : (putT x).size = 128 := by rw [← putP_two, putP_size h (by omega)]
theorem put_bad (x : Im) (hx : ImOk x) (h : rightB x = false) (w : World) : Calls Tryz.prog 23 #[iagg x] w fun e w' => e = .returned (.tuple #[.string ⟨#[]⟩, .int .i64 1]) ∧ Below w.heap.size w w' := by
  have kr := fun W => right_any x W hx
  rw [h] at kr
  unfold iagg at *
  clear h hx
  go_enter Tryz.func23, Tryz.ntmps23
  go_wp2_with (go_at_call 50; refine (kr _).mono ?_; rintro e w1 ⟨rfl, hb1⟩; have HB1 := Lib.hid hb1; clear hb1)
  go_ret2
  exact ⟨rfl, belowThen (belowNew (belowSame w) _) HB1.out⟩
set_option maxHeartbeats 4000000 in
theorem put_ok (x : Im) (hg : Good x) (w : World) : Calls Tryz.prog 23 #[iagg x] w fun e w' => e = .returned (.tuple #[.string (putT x), .int .i64 0]) ∧ Below w.heap.size w w' := by
  have kr := fun W => right_any x W hg.ok
  rw [(right_iff hg.ok).2 hg] at kr
  have ks := fun k (hk : k < 2) W => sector_any x hg k hk W
  have hps := fun k (hk : k ≤ 2) => putP_size (x := x) hg.d hk
  have hss := fun k (hk : k < 2) => secT_size (x := x) hg.d hk
  have hst := fun k => show putP x (k + 1) = putP x k ++ secT x k from rfl
  rw [← putP_two]
  generalize putP x = PP at *
  generalize secT x = SS at *
  have KS := Lib.hid ks
  have HPS := Lib.hid hps
  have HSS := Lib.hid hss
  have HST := Lib.hid hst
  unfold iagg at *
  have HBN := Lib.hid (Blk.new w TIm (icells x))
  have HB0 := Lib.hid (belowNew (belowSame w) (.cells (icells x) TIm))
  have hp0 : PP 0 = ⟨#[]⟩ := by
    have := hps 0 (by omega)
    have h0 : (PP 0).data.size = 0 := this
    cases hh : PP 0 with
    | mk d => rw [hh] at h0; congr 1; exact Array.eq_empty_of_size_eq_zero h0
  have HP0 := Lib.hid hp0
  clear ks hps hss hst hg hp0
  go_enter Tryz.func23, Tryz.ntmps23
  go_wp2_with (go_at_call 50; refine (kr _).mono ?_; rintro e w1 ⟨rfl, hb1⟩; have bk := HBN.out.below hb1 HBN.out.lt; have HN1 := Lib.hid bk; have B1 := Lib.hid (belowThen HB0.out hb1); clear hb1 bk)
  go_loopw [4, 11] (fun o i wr => ∃ k : Nat, k ≤ 2 ∧ i = .int .i64 (k : Int) ∧ o = .string (PP k) ∧ Hid (Blk wr w.heap.size TIm (icells x)) ∧ Hid (Below w.heap.size w wr)) (fun _ i _ => 2 - (intOf i).toNat)
  case atStart => exact ⟨0, by omega, rfl, by rw [HP0.out], HN1, B1⟩
  case round =>
    obtain ⟨k, hk, rfl, rfl, HK, BK⟩ := hrel
    by_cases hlt : k < 2
    · have kk := fun W => KS.out k hlt W
      have z1 := HPS.out k (by omega)
      have z2 := HSS.out k hlt
      have hs := HST.out k
      have n1 : decide ((k : Int) < 2) = true := by simp; omega
      have e1 : IntKind.i64.wrap ((k : Int) + 1) = (k : Int) + 1 := IntWalk.i64_in _ (by omega)
      have hz2 : ¬ 9223372036854775807 < (PP k).size + (SS k).size := by omega
      have bk := HK.out
      have y0 : wr.cell? ⟨w.heap.size, 0, none⟩ = some (.int .i64 x.b) := bk.cell 0
      have y1 : wr.cell? ⟨w.heap.size, 1, none⟩ = some (.int .u64 x.v) := bk.cell 1
      have y2 : wr.cell? ⟨w.heap.size, 2, none⟩ = some (.string x.d) := bk.cell 2
      have HS := Lib.hid hs
      clear hs z1 z2 bk
      go_wp2_with (go_at_call 51; refine (kk _).mono ?_; rintro e w2 ⟨rfl, hb2⟩; have HN2 := Lib.hid (HK.out.below hb2 HK.out.lt); have B2 := Lib.hid (belowThen BK.out hb2); clear hb2)
      go_roundw
      case rel => exact ⟨k + 1, by omega, by go_num, by rw [HS.out], HN2, B2⟩
      case measure => simp [intOf]; omega
    · obtain rfl : k = 2 := by omega
      go_wp2
      go_ret2
      exact ⟨rfl, BK.out⟩
end Go.Proofs.YtcbhdggjcelmaaaGreat.BK

/- block: read, Get. No condition. -/
namespace Go.Proofs.YtcbhdggjcelmaaaGreat.BK
set_option maxRecDepth 100000
open Go.RowKit Go.Proofs.YtcbhdggjcelmaaaGreat.WI Go.Proofs.YtcbhdggjcelmaaaGreat.SM
set_option linter.unusedVariables false
set_option linter.unusedSimpArgs false

/-- One sector of many; what a sector says. -/
def sect (b : ByteArray) (k : Nat) : ByteArray := b.extract (k * 64) ((k + 1) * 64)
def rdB (F : ByteArray) : Int := leL ((F.extract 48 F.size).extract 0 4).data.toList
def rdV (F : ByteArray) : Int := leL (((F.extract 48 F.size).extract 4 (F.extract 48 F.size).size).extract 0 8).data.toList
def rdD (F : ByteArray) : ByteArray := F.extract 0 48
def rdF (b : ByteArray) (k : Nat) : ByteArray := (sect b k).extract 0 60
theorem rdB_b (F : ByteArray) (h : F.size = 60) : 0 ≤ rdB F ∧ rdB F < 4294967296 := by
  unfold rdB
  obtain ⟨m, h1, h2⟩ := leL_lt ((F.extract 48 F.size).extract 0 4).data.toList
  have h3 : ((F.extract 48 F.size).extract 0 4).data.toList.length = 4 := by
    rw [Array.length_toList]; show ((F.extract 48 F.size).extract 0 4).size = 4; simp only [ByteArray.size_extract]; omega
  rw [h3, show (256 : Nat) ^ 4 = 4294967296 from rfl] at h2
  rw [h1]; omega
theorem rdF_size (b : ByteArray) (h : b.size = 128) {k : Nat} (hk : k < 2) : (rdF b k).size = 60 := by unfold rdF sect; simp only [ByteArray.size_extract]; omega
set_option maxHeartbeats 4000000 in
theorem read_none (b : ByteArray) (hb : b.size = 128) (k : Nat) (hk : k < 2) (hf : fitsR (sect b k) = false) (w : World) :
    Calls Tryz.prog 59 #[.string b, .int .i64 (k : Int)] w fun x w' => x = .returned (.tuple #[iagg im0, .int .i64 6]) ∧ Below w.heap.size w w' := by
  have e1 : IntKind.i64.wrap ((k : Int) * 64) = (k : Int) * 64 := IntWalk.i64_in _ (by omega)
  have e2 : IntKind.i64.wrap ((k : Int) + 1) = (k : Int) + 1 := IntWalk.i64_in _ (by omega)
  have e3 : IntKind.i64.wrap (((k : Int) + 1) * 64) = ((k : Int) + 1) * 64 := IntWalk.i64_in _ (by omega)
  obtain ⟨S, hS⟩ : ∃ S, sect b k = S := ⟨_, rfl⟩
  have hsl : ∀ w : World, (Instr.slice 9 (.string b) (some (.int .i64 ((k : Int) * 64))) (some (.int .i64 (((k : Int) + 1) * 64))) none).run Tryz.prog w = .ok (.string S) w := fun w => by
    rw [run_slice_string (P := Tryz.prog) w _ b .i64 .i64 ((k : Int) * 64) (((k : Int) + 1) * 64) Tryz.underlying9 (by omega) (by omega) (by omega)]
    rw [show ((k : Int) * 64).toNat = k * 64 by omega, show (((k : Int) + 1) * 64).toNat = (k + 1) * 64 by omega]
    rw [← hS]; rfl
  have hSs : S.size = 64 := by rw [← hS]; unfold sect; rw [ByteArray.size_extract]; omega
  rw [hS] at hf
  have kr := fun W => SM.read_bad S 60 hSs (by omega) hf W
  unfold iagg
  clear hf hS hSs hk hb
  have hbn := Blk.new w TIm #[.int .i64 0, .int .u64 0, .string ⟨#[]⟩]
  have hb0 := belowNew (belowSame w) (.cells #[.int .i64 0, .int .u64 0, .string ⟨#[]⟩] TIm)
  obtain ⟨W0, hW0⟩ : ∃ W0, w.alloc (.cells #[.int .i64 0, .int .u64 0, .string ⟨#[]⟩] TIm) = W0 := ⟨_, rfl⟩
  rw [hW0] at hbn hb0
  obtain ⟨r0, hr0⟩ : ∃ r, w.heap.size = r := ⟨_, rfl⟩
  rw [hr0] at hbn
  have HW0 := Lib.hid (show w.alloc (.cells #[.int .i64 0, .int .u64 0, .string ⟨#[]⟩] TIm) = W0 from hW0)
  have HR0 := Lib.hid hr0
  have HBN := Lib.hid hbn
  have HB0 := Lib.hid hb0
  clear hbn hb0 hW0 hr0
  go_enter Tryz.func59, Tryz.ntmps59
  go_upto_region 1 with fail
  rw [HW0.out, HR0.out]
  go_wp2_with (go_at_call 67; refine (kr _).mono ?_; rintro x w1 ⟨rfl, hb1⟩; have br := HBN.out.below hb1 HBN.out.lt; have y0 : w1.cell? ⟨r0, 0, none⟩ = some (.int .i64 0) := br.cell 0; have f0 := br.frozen 0; have y1 : w1.cell? ⟨r0, 1, none⟩ = some (.int .u64 0) := br.cell 1; have f1 := br.frozen 1; have y2 : w1.cell? ⟨r0, 2, none⟩ = some (.string ⟨#[]⟩) := br.cell 2; have f2 := br.frozen 2; have HBR := Lib.hid br; have HBE := Lib.hid hb1; clear hb1 br)
  have b4 := ((HBR.out.set_ 0 (.int .i64 0)).set_ 1 (.int .u64 0)).set_ 2 (.string ⟨#[]⟩)
  have hr0 : w.heap.size ≤ r0 := by rw [HR0.out]; exact Nat.le_refl _
  have hA : Below w.heap.size w w1 := HB0.out.trans (HBE.out.mono HB0.out.size)
  have hE : Below w.heap.size w (((w1.setCell ⟨r0, 0, none⟩ (.int .i64 0)).setCell ⟨r0, 1, none⟩ (.int .u64 0)).setCell ⟨r0, 2, none⟩ (.string ⟨#[]⟩)) := ((hA.setCell (p := ⟨r0, 0, none⟩) hr0 (.int .i64 0)).setCell (p := ⟨r0, 1, none⟩) hr0 (.int .u64 0)).setCell (p := ⟨r0, 2, none⟩) hr0 (.string ⟨#[]⟩)
  have d0 : (((w1.setCell ⟨r0, 0, none⟩ (.int .i64 0)).setCell ⟨r0, 1, none⟩ (.int .u64 0)).setCell ⟨r0, 2, none⟩ (.string ⟨#[]⟩)).cell? ⟨r0, 0, none⟩ = some (.int .i64 0) := b4.cell 0
  have d1 : (((w1.setCell ⟨r0, 0, none⟩ (.int .i64 0)).setCell ⟨r0, 1, none⟩ (.int .u64 0)).setCell ⟨r0, 2, none⟩ (.string ⟨#[]⟩)).cell? ⟨r0, 1, none⟩ = some (.int .u64 0) := b4.cell 1
  have d2 : (((w1.setCell ⟨r0, 0, none⟩ (.int .i64 0)).setCell ⟨r0, 1, none⟩ (.int .u64 0)).setCell ⟨r0, 2, none⟩ (.string ⟨#[]⟩)).cell? ⟨r0, 2, none⟩ = some (.string ⟨#[]⟩) := b4.cell 2
  exact bodyPost_ret (v := .tuple #[.agg #[.int .i64 0, .int .u64 0, .string ⟨#[]⟩], .int .i64 6]) (by simp [results, Tryz.results59, go_sem, d0, d1, d2]) rfl ⟨rfl, hE⟩
set_option maxHeartbeats 4000000 in
theorem read_good (b : ByteArray) (hb : b.size = 128) (k : Nat) (hk : k < 2) (hf : fitsR (sect b k) = true) (w : World) :
    Calls Tryz.prog 59 #[.string b, .int .i64 (k : Int)] w fun x w' => x = .returned (.tuple #[iagg ⟨rdB (rdF b k), rdV (rdF b k), rdD (rdF b k)⟩, .int .i64 0]) ∧ Below w.heap.size w w' := by
  have e1 : IntKind.i64.wrap ((k : Int) * 64) = (k : Int) * 64 := IntWalk.i64_in _ (by omega)
  have e2 : IntKind.i64.wrap ((k : Int) + 1) = (k : Int) + 1 := IntWalk.i64_in _ (by omega)
  have e3 : IntKind.i64.wrap (((k : Int) + 1) * 64) = ((k : Int) + 1) * 64 := IntWalk.i64_in _ (by omega)
  obtain ⟨S, hS⟩ : ∃ S, sect b k = S := ⟨_, rfl⟩
  have hsl : ∀ w : World, (Instr.slice 9 (.string b) (some (.int .i64 ((k : Int) * 64))) (some (.int .i64 (((k : Int) + 1) * 64))) none).run Tryz.prog w = .ok (.string S) w := fun w => by
    rw [run_slice_string (P := Tryz.prog) w _ b .i64 .i64 ((k : Int) * 64) (((k : Int) + 1) * 64) Tryz.underlying9 (by omega) (by omega) (by omega)]
    rw [show ((k : Int) * 64).toNat = k * 64 by omega, show (((k : Int) + 1) * 64).toNat = (k + 1) * 64 by omega]
    rw [← hS]; rfl
  have hSs : S.size = 64 := by rw [← hS]; unfold sect; rw [ByteArray.size_extract]; omega
  rw [hS] at hf
  have kr := fun W => SM.read_ok S 60 hSs (by omega) hf W
  have hFs := rdF_size b hb hk
  have hF : rdF b k = S.extract 0 60 := by unfold rdF; rw [hS]
  have hbb := rdB_b (rdF b k) hFs
  rw [← hF] at kr
  generalize rdF b k = F at *
  obtain ⟨X, hX⟩ : ∃ X, F.extract 48 F.size = X := ⟨_, rfl⟩
  have hXs : X.size = 12 := by rw [← hX, ByteArray.size_extract]; omega
  have kn := fun W => new_reader X (by omega) W
  obtain ⟨X1, hX1⟩ : ∃ X1, X.extract 4 X.size = X1 := ⟨_, rfl⟩
  have hX1s : X1.size = 8 := by rw [← hX1, ByteArray.size_extract]; omega
  have hq1 : leL (X.extract 0 4).data.toList = rdB F := by unfold rdB; rw [hX]
  have hq2 : leL (X1.extract 0 8).data.toList = rdV F := by unfold rdV; rw [hX, hX1]
  have hq3 : F.extract 0 48 = rdD F := rfl
  have q1 : ∀ {W w : World} {B g : Nat}, Rd W B g X w → Calls Tryz.prog 69 #[.pointer (some ⟨g, 0, none⟩), .int .i64 4] w fun x w' => x = .returned (.int .u64 (rdB F)) ∧ Rd W B g X1 w' ∧ Keeps (only g) w w' := fun h => by
    have := rnum_4 h (by omega) (by omega); rwa [hq1, hX1] at this
  have q2 : ∀ {W w : World} {B g : Nat}, Rd W B g X1 w → Calls Tryz.prog 69 #[.pointer (some ⟨g, 0, none⟩), .int .i64 8] w fun x w' => x = .returned (.int .u64 (rdV F)) ∧ Rd W B g (X1.extract 8 X1.size) w' ∧ Keeps (only g) w w' := fun h => by
    have := rnum_8 h (by omega) (by omega); rwa [hq2] at this
  generalize X1.extract 8 X1.size = X2 at q2
  have e4 : IntKind.i64.wrap (rdB F) = rdB F := IntWalk.i64_in _ (by omega)
  generalize rdB F = xb at *
  generalize rdV F = xv at *
  generalize rdD F = xd at *
  have h48 : (48 : Int) ≤ (F.size : Int) := by omega
  unfold iagg
  clear hf hS hSs hk hb hF hbb hFs hXs hX1s hX1 hq1 hq2
  have hbn := Blk.new w TIm #[.int .i64 0, .int .u64 0, .string ⟨#[]⟩]
  have hb0 := belowNew (belowSame w) (.cells #[.int .i64 0, .int .u64 0, .string ⟨#[]⟩] TIm)
  obtain ⟨W0, hW0⟩ : ∃ W0, w.alloc (.cells #[.int .i64 0, .int .u64 0, .string ⟨#[]⟩] TIm) = W0 := ⟨_, rfl⟩
  rw [hW0] at hbn hb0
  obtain ⟨r0, hr0⟩ : ∃ r, w.heap.size = r := ⟨_, rfl⟩
  rw [hr0] at hbn
  have HW0 := Lib.hid (show w.alloc (.cells #[.int .i64 0, .int .u64 0, .string ⟨#[]⟩] TIm) = W0 from hW0)
  have HR0 := Lib.hid hr0
  have HBN := Lib.hid hbn
  have HB0 := Lib.hid hb0
  clear hbn hb0 hW0 hr0
  go_enter Tryz.func59, Tryz.ntmps59
  go_upto_region 1 with fail
  rw [HW0.out, HR0.out]
  go_upto_region 5 with (first
    | (go_at_call 67; refine (kr _).mono ?_; rintro x w1 ⟨rfl, hb1⟩; have HB1 := Lib.hid hb1; clear hb1)
    | (go_at_call 68; refine (kn _).mono ?_; rintro x w2 ⟨g, rfl, hr2⟩; have R0 := Lib.hid hr2.drew; clear hr2))
  have QQ1 := q1 R0.out
  clear q1
  go_region_law (first
    | (go_simp; (with_reducible refine QQ1.mono ?_); rintro x w3 ⟨rfl, hr3, hk3⟩; have QQ2 := q2 hr3; clear hr3 hk3 QQ1)
    | (go_simp; (with_reducible refine QQ2.mono ?_); rintro x w4 ⟨rfl, hr4, hk4⟩; have hb4 := HB1.out.trans (hr4.2.1.mono HB1.out.size); have br := HBN.out.below hb4 HBN.out.lt; have y0 : w4.cell? ⟨r0, 0, none⟩ = some (.int .i64 0) := br.cell 0; have f0 := br.frozen 0; have y1 : w4.cell? ⟨r0, 1, none⟩ = some (.int .u64 0) := br.cell 1; have f1 := br.frozen 1; have y2 : w4.cell? ⟨r0, 2, none⟩ = some (.string ⟨#[]⟩) := br.cell 2; have f2 := br.frozen 2; have HBR := Lib.hid br; have HBE := Lib.hid hb4; clear hr4 hk4 QQ2 hb4 br))
  all_goals
    go_wp2_with fail
    have b4 := ((HBR.out.set_ 0 (.int .i64 xb)).set_ 1 (.int .u64 xv)).set_ 2 (.string xd)
    have hr0 : w.heap.size ≤ r0 := by rw [HR0.out]; exact Nat.le_refl _
    have hA : Below w.heap.size w w4 := HB0.out.trans (HBE.out.mono HB0.out.size)
    have hE : Below w.heap.size w (((w4.setCell ⟨r0, 0, none⟩ (.int .i64 xb)).setCell ⟨r0, 1, none⟩ (.int .u64 xv)).setCell ⟨r0, 2, none⟩ (.string xd)) := ((hA.setCell (p := ⟨r0, 0, none⟩) hr0 (.int .i64 xb)).setCell (p := ⟨r0, 1, none⟩) hr0 (.int .u64 xv)).setCell (p := ⟨r0, 2, none⟩) hr0 (.string xd)
    have d0 : (((w4.setCell ⟨r0, 0, none⟩ (.int .i64 xb)).setCell ⟨r0, 1, none⟩ (.int .u64 xv)).setCell ⟨r0, 2, none⟩ (.string xd)).cell? ⟨r0, 0, none⟩ = some (.int .i64 xb) := b4.cell 0
    have d1 : (((w4.setCell ⟨r0, 0, none⟩ (.int .i64 xb)).setCell ⟨r0, 1, none⟩ (.int .u64 xv)).setCell ⟨r0, 2, none⟩ (.string xd)).cell? ⟨r0, 1, none⟩ = some (.int .u64 xv) := b4.cell 1
    have d2 : (((w4.setCell ⟨r0, 0, none⟩ (.int .i64 xb)).setCell ⟨r0, 1, none⟩ (.int .u64 xv)).setCell ⟨r0, 2, none⟩ (.string xd)).cell? ⟨r0, 2, none⟩ = some (.string xd) := b4.cell 2
    exact bodyPost_ret (v := .tuple #[.agg #[.int .i64 xb, .int .u64 xv, .string xd], .int .i64 0]) (by simp [results, Tryz.results59, go_sem, d0, d1, d2]) rfl ⟨rfl, hE⟩
end Go.Proofs.YtcbhdggjcelmaaaGreat.BK

/- block: Get. No condition. -/
namespace Go.Proofs.YtcbhdggjcelmaaaGreat.BK
set_option maxRecDepth 100000
open Go.RowKit Go.Proofs.YtcbhdggjcelmaaaGreat.WI Go.Proofs.YtcbhdggjcelmaaaGreat.SM
set_option linter.unusedVariables false
set_option linter.unusedSimpArgs false

/-- What Get makes of a text: the image, and the number of the error. -/
def getR (n : Int) (b : ByteArray) : Im × Int :=
  if b.size = 128 then (if b = zerosT 128 then (⟨n, 0, zerosT 96⟩, 0)
    else if fitsR (sect b 0) = true then (if fitsR (sect b 1) = true then
      (if rdB (rdF b 0) = n ∧ rdB (rdF b 1) = n ∧ n < 4096 then (if rdV (rdF b 0) = rdV (rdF b 1) then (⟨n, rdV (rdF b 0), rdD (rdF b 0) ++ rdD (rdF b 1)⟩, 0) else (im0, 6)) else (im0, 4)) else (im0, 6)) else (im0, 6))
  else (im0, 5)
theorem list_ne {a b : ByteArray} (h : a ≠ b) : (a.toList == b.toList) = false := by
  refine SM.toList_ne fun e => h ?_
  cases a with | mk x => cases b with | mk y => exact congrArg ByteArray.mk (Array.ext' e)
theorem list_eq (a : ByteArray) : (a.toList == a.toList) = true := by simp
set_option maxHeartbeats 4000000 in
theorem get_size (n : Int) (b : ByteArray) (hs : b.size ≠ 128) (w : World) : Calls Tryz.prog 28 #[.int .i64 n, .string b] w fun x w' => x = .returned (.tuple #[iagg im0, .int .i64 5]) ∧ Below w.heap.size w w' := by
  have hs2 : ((b.size : Int) == 128) = false := by rw [beq_eq_false_iff_ne]; omega
  unfold iagg
  clear hs
  have hbn := Blk.new w TIm #[.int .i64 0, .int .u64 0, .string ⟨#[]⟩]
  have hb0 := belowNew (belowSame w) (.cells #[.int .i64 0, .int .u64 0, .string ⟨#[]⟩] TIm)
  obtain ⟨W0, hW0⟩ : ∃ W0, w.alloc (.cells #[.int .i64 0, .int .u64 0, .string ⟨#[]⟩] TIm) = W0 := ⟨_, rfl⟩
  rw [hW0] at hbn hb0
  obtain ⟨r0, hr0⟩ : ∃ r, w.heap.size = r := ⟨_, rfl⟩
  rw [hr0] at hbn
  have HW0 := Lib.hid (show w.alloc (.cells #[.int .i64 0, .int .u64 0, .string ⟨#[]⟩] TIm) = W0 from hW0)
  have HR0 := Lib.hid hr0
  have HBN := Lib.hid hbn
  have HB0 := Lib.hid hb0
  clear hbn hb0 hW0 hr0
  go_enter Tryz.func28, Tryz.ntmps28
  go_upto_region 1 with fail
  rw [HW0.out, HR0.out]
  have br := HBN.out
  have y0 : W0.cell? ⟨r0, 0, none⟩ = some (.int .i64 0) := br.cell 0
  have f0 := br.frozen 0
  have y1 : W0.cell? ⟨r0, 1, none⟩ = some (.int .u64 0) := br.cell 1
  have f1 := br.frozen 1
  have y2 : W0.cell? ⟨r0, 2, none⟩ = some (.string ⟨#[]⟩) := br.cell 2
  have f2 := br.frozen 2
  have HBR := HBN
  have HBE := Lib.hid (belowSame W0)
  clear br
  go_wp2_with fail
  have b4 := ((HBR.out.set_ 0 (.int .i64 0)).set_ 1 (.int .u64 0)).set_ 2 (.string ⟨#[]⟩)
  have hr0 : w.heap.size ≤ r0 := by rw [HR0.out]; exact Nat.le_refl _
  have hA : Below w.heap.size w W0 := HB0.out.trans (HBE.out.mono HB0.out.size)
  have hE : Below w.heap.size w (((W0.setCell ⟨r0, 0, none⟩ (.int .i64 0)).setCell ⟨r0, 1, none⟩ (.int .u64 0)).setCell ⟨r0, 2, none⟩ (.string ⟨#[]⟩)) := ((hA.setCell (p := ⟨r0, 0, none⟩) hr0 (.int .i64 0)).setCell (p := ⟨r0, 1, none⟩) hr0 (.int .u64 0)).setCell (p := ⟨r0, 2, none⟩) hr0 (.string ⟨#[]⟩)
  have d0 : (((W0.setCell ⟨r0, 0, none⟩ (.int .i64 0)).setCell ⟨r0, 1, none⟩ (.int .u64 0)).setCell ⟨r0, 2, none⟩ (.string ⟨#[]⟩)).cell? ⟨r0, 0, none⟩ = some (.int .i64 0) := b4.cell 0
  have d1 : (((W0.setCell ⟨r0, 0, none⟩ (.int .i64 0)).setCell ⟨r0, 1, none⟩ (.int .u64 0)).setCell ⟨r0, 2, none⟩ (.string ⟨#[]⟩)).cell? ⟨r0, 1, none⟩ = some (.int .u64 0) := b4.cell 1
  have d2 : (((W0.setCell ⟨r0, 0, none⟩ (.int .i64 0)).setCell ⟨r0, 1, none⟩ (.int .u64 0)).setCell ⟨r0, 2, none⟩ (.string ⟨#[]⟩)).cell? ⟨r0, 2, none⟩ = some (.string ⟨#[]⟩) := b4.cell 2
  exact bodyPost_ret (v := .tuple #[.agg #[.int .i64 0, .int .u64 0, .string ⟨#[]⟩], .int .i64 5]) (by simp [results, Tryz.results28, go_sem, d0, d1, d2]) rfl ⟨rfl, hE⟩
set_option maxHeartbeats 4000000 in
theorem get_zero (n : Int) (w : World) : Calls Tryz.prog 28 #[.int .i64 n, .string (zerosT 128)] w fun x w' => x = .returned (.tuple #[iagg ⟨n, 0, zerosT 96⟩, .int .i64 0]) ∧ Below w.heap.size w w' := by
  have hs2 : (((zerosT 128).size : Int) == 128) = true := by rw [zerosT_size]; rfl
  have kz : ∀ W, Calls Tryz.prog 31 #[.int .i64 128] W fun e w' => e = .returned (.string (zerosT 128)) ∧ Below W.heap.size W w' := fun W => zero_any 128 (by omega) W
  have kz2 : ∀ W, Calls Tryz.prog 31 #[.int .i64 96] W fun e w' => e = .returned (.string (zerosT 96)) ∧ Below W.heap.size W w' := fun W => zero_any 96 (by omega) W
  generalize zerosT 128 = b at *
  have he := list_eq b
  generalize zerosT 96 = Z at *
  unfold iagg
  have hbn := Blk.new w TIm #[.int .i64 0, .int .u64 0, .string ⟨#[]⟩]
  have hb0 := belowNew (belowSame w) (.cells #[.int .i64 0, .int .u64 0, .string ⟨#[]⟩] TIm)
  obtain ⟨W0, hW0⟩ : ∃ W0, w.alloc (.cells #[.int .i64 0, .int .u64 0, .string ⟨#[]⟩] TIm) = W0 := ⟨_, rfl⟩
  rw [hW0] at hbn hb0
  obtain ⟨r0, hr0⟩ : ∃ r, w.heap.size = r := ⟨_, rfl⟩
  rw [hr0] at hbn
  have HW0 := Lib.hid (show w.alloc (.cells #[.int .i64 0, .int .u64 0, .string ⟨#[]⟩] TIm) = W0 from hW0)
  have HR0 := Lib.hid hr0
  have HBN := Lib.hid hbn
  have HB0 := Lib.hid hb0
  clear hbn hb0 hW0 hr0
  go_enter Tryz.func28, Tryz.ntmps28
  go_upto_region 1 with fail
  rw [HW0.out, HR0.out]
  go_wp2_with (first
    | (go_at_call 31; ((with_reducible refine (kz _).mono ?_); rintro x w1 ⟨rfl, hb1⟩); have BW1 := Lib.hid hb1; clear hb1 kz)
    | (go_at_call 31; refine (kz2 _).mono ?_; rintro x w2 ⟨rfl, hb2⟩; have hb3 := belowThen BW1.out hb2; have br := HBN.out.below hb3 HBN.out.lt; have y0 : w2.cell? ⟨r0, 0, none⟩ = some (.int .i64 0) := br.cell 0; have f0 := br.frozen 0; have y1 : w2.cell? ⟨r0, 1, none⟩ = some (.int .u64 0) := br.cell 1; have f1 := br.frozen 1; have y2 : w2.cell? ⟨r0, 2, none⟩ = some (.string ⟨#[]⟩) := br.cell 2; have f2 := br.frozen 2; have HBR := Lib.hid br; have HBE := Lib.hid hb3; clear br; clear hb2))
  have b4 := ((HBR.out.set_ 0 (.int .i64 n)).set_ 1 (.int .u64 0)).set_ 2 (.string Z)
  have hr0 : w.heap.size ≤ r0 := by rw [HR0.out]; exact Nat.le_refl _
  have hA : Below w.heap.size w w2 := HB0.out.trans (HBE.out.mono HB0.out.size)
  have hE : Below w.heap.size w (((w2.setCell ⟨r0, 0, none⟩ (.int .i64 n)).setCell ⟨r0, 1, none⟩ (.int .u64 0)).setCell ⟨r0, 2, none⟩ (.string Z)) := ((hA.setCell (p := ⟨r0, 0, none⟩) hr0 (.int .i64 n)).setCell (p := ⟨r0, 1, none⟩) hr0 (.int .u64 0)).setCell (p := ⟨r0, 2, none⟩) hr0 (.string Z)
  have d0 : (((w2.setCell ⟨r0, 0, none⟩ (.int .i64 n)).setCell ⟨r0, 1, none⟩ (.int .u64 0)).setCell ⟨r0, 2, none⟩ (.string Z)).cell? ⟨r0, 0, none⟩ = some (.int .i64 n) := b4.cell 0
  have d1 : (((w2.setCell ⟨r0, 0, none⟩ (.int .i64 n)).setCell ⟨r0, 1, none⟩ (.int .u64 0)).setCell ⟨r0, 2, none⟩ (.string Z)).cell? ⟨r0, 1, none⟩ = some (.int .u64 0) := b4.cell 1
  have d2 : (((w2.setCell ⟨r0, 0, none⟩ (.int .i64 n)).setCell ⟨r0, 1, none⟩ (.int .u64 0)).setCell ⟨r0, 2, none⟩ (.string Z)).cell? ⟨r0, 2, none⟩ = some (.string Z) := b4.cell 2
  exact bodyPost_ret (v := .tuple #[.agg #[.int .i64 n, .int .u64 0, .string Z], .int .i64 0]) (by simp [results, Tryz.results28, go_sem, d0, d1, d2]) rfl ⟨rfl, hE⟩
set_option maxHeartbeats 4000000 in
theorem get_none0 (n : Int) (b : ByteArray) (hb : b.size = 128) (hz : b ≠ zerosT 128) (hf : fitsR (sect b 0) = false) (w : World) : Calls Tryz.prog 28 #[.int .i64 n, .string b] w fun x w' => x = .returned (.tuple #[iagg im0, .int .i64 6]) ∧ Below w.heap.size w w' := by
  have hs2 : ((b.size : Int) == 128) = true := by rw [hb]; rfl
  have kz : ∀ W, Calls Tryz.prog 31 #[.int .i64 128] W fun e w' => e = .returned (.string (zerosT 128)) ∧ Below W.heap.size W w' := fun W => zero_any 128 (by omega) W
  have he := list_ne hz
  generalize zerosT 128 = ZZ at kz he
  have kr : ∀ W, Calls Tryz.prog 59 #[.string b, .int .i64 0] W fun x w' => x = .returned (.tuple #[iagg im0, .int .i64 6]) ∧ Below W.heap.size W w' := fun W => read_none b hb 0 (by omega) hf W
  unfold iagg at *
  clear hb hz hf
  have hbn := Blk.new w TIm #[.int .i64 0, .int .u64 0, .string ⟨#[]⟩]
  have hb0 := belowNew (belowSame w) (.cells #[.int .i64 0, .int .u64 0, .string ⟨#[]⟩] TIm)
  obtain ⟨W0, hW0⟩ : ∃ W0, w.alloc (.cells #[.int .i64 0, .int .u64 0, .string ⟨#[]⟩] TIm) = W0 := ⟨_, rfl⟩
  rw [hW0] at hbn hb0
  obtain ⟨r0, hr0⟩ : ∃ r, w.heap.size = r := ⟨_, rfl⟩
  rw [hr0] at hbn
  have HW0 := Lib.hid (show w.alloc (.cells #[.int .i64 0, .int .u64 0, .string ⟨#[]⟩] TIm) = W0 from hW0)
  have HR0 := Lib.hid hr0
  have HBN := Lib.hid hbn
  have HB0 := Lib.hid hb0
  clear hbn hb0 hW0 hr0
  go_enter Tryz.func28, Tryz.ntmps28
  go_upto_region 1 with fail
  rw [HW0.out, HR0.out]
  go_wp2_with (first
    | (go_at_call 31; refine (kz _).mono ?_; rintro x w1 ⟨rfl, hb1⟩; have BW1 := Lib.hid hb1; clear hb1)
    | (go_at_call 59; ((with_reducible refine (kr _).mono ?_); rintro x w2 ⟨rfl, hb2⟩); have hb3 := belowNew (belowThen BW1.out hb2) (.cells #[.int .i64 0, .int .u64 0, .string ⟨#[]⟩] TIm); have BX := Lib.hid (Blk.new w2 TIm #[.int .i64 0, .int .u64 0, .string ⟨#[]⟩]); have BW2 := Lib.hid hb3; have br := HBN.out.below hb3 HBN.out.lt; have y0 : (w2.alloc (.cells #[.int .i64 0, .int .u64 0, .string ⟨#[]⟩] TIm)).cell? ⟨r0, 0, none⟩ = some (.int .i64 0) := br.cell 0; have f0 := br.frozen 0; have y1 : (w2.alloc (.cells #[.int .i64 0, .int .u64 0, .string ⟨#[]⟩] TIm)).cell? ⟨r0, 1, none⟩ = some (.int .u64 0) := br.cell 1; have f1 := br.frozen 1; have y2 : (w2.alloc (.cells #[.int .i64 0, .int .u64 0, .string ⟨#[]⟩] TIm)).cell? ⟨r0, 2, none⟩ = some (.string ⟨#[]⟩) := br.cell 2; have f2 := br.frozen 2; have HBR := Lib.hid br; have HBE := Lib.hid hb3; clear br; clear hb2 hb3 kr))
  have b4 := ((HBR.out.set_ 0 (.int .i64 0)).set_ 1 (.int .u64 0)).set_ 2 (.string ⟨#[]⟩)
  have hr0 : w.heap.size ≤ r0 := by rw [HR0.out]; exact Nat.le_refl _
  have hA : Below w.heap.size w (w2.alloc (.cells #[.int .i64 0, .int .u64 0, .string ⟨#[]⟩] TIm)) := HB0.out.trans (HBE.out.mono HB0.out.size)
  have hE : Below w.heap.size w ((((w2.alloc (.cells #[.int .i64 0, .int .u64 0, .string ⟨#[]⟩] TIm)).setCell ⟨r0, 0, none⟩ (.int .i64 0)).setCell ⟨r0, 1, none⟩ (.int .u64 0)).setCell ⟨r0, 2, none⟩ (.string ⟨#[]⟩)) := ((hA.setCell (p := ⟨r0, 0, none⟩) hr0 (.int .i64 0)).setCell (p := ⟨r0, 1, none⟩) hr0 (.int .u64 0)).setCell (p := ⟨r0, 2, none⟩) hr0 (.string ⟨#[]⟩)
  have d0 : ((((w2.alloc (.cells #[.int .i64 0, .int .u64 0, .string ⟨#[]⟩] TIm)).setCell ⟨r0, 0, none⟩ (.int .i64 0)).setCell ⟨r0, 1, none⟩ (.int .u64 0)).setCell ⟨r0, 2, none⟩ (.string ⟨#[]⟩)).cell? ⟨r0, 0, none⟩ = some (.int .i64 0) := b4.cell 0
  have d1 : ((((w2.alloc (.cells #[.int .i64 0, .int .u64 0, .string ⟨#[]⟩] TIm)).setCell ⟨r0, 0, none⟩ (.int .i64 0)).setCell ⟨r0, 1, none⟩ (.int .u64 0)).setCell ⟨r0, 2, none⟩ (.string ⟨#[]⟩)).cell? ⟨r0, 1, none⟩ = some (.int .u64 0) := b4.cell 1
  have d2 : ((((w2.alloc (.cells #[.int .i64 0, .int .u64 0, .string ⟨#[]⟩] TIm)).setCell ⟨r0, 0, none⟩ (.int .i64 0)).setCell ⟨r0, 1, none⟩ (.int .u64 0)).setCell ⟨r0, 2, none⟩ (.string ⟨#[]⟩)).cell? ⟨r0, 2, none⟩ = some (.string ⟨#[]⟩) := b4.cell 2
  exact bodyPost_ret (v := .tuple #[.agg #[.int .i64 0, .int .u64 0, .string ⟨#[]⟩], .int .i64 6]) (by simp [results, Tryz.results28, go_sem, d0, d1, d2]) rfl ⟨rfl, hE⟩
set_option maxHeartbeats 4000000 in
theorem get_none1 (n : Int) (b : ByteArray) (hb : b.size = 128) (hz : b ≠ zerosT 128) (hf : fitsR (sect b 0) = true) (hf2 : fitsR (sect b 1) = false) (w : World) : Calls Tryz.prog 28 #[.int .i64 n, .string b] w fun x w' => x = .returned (.tuple #[iagg im0, .int .i64 6]) ∧ Below w.heap.size w w' := by
  have hs2 : ((b.size : Int) == 128) = true := by rw [hb]; rfl
  have kz : ∀ W, Calls Tryz.prog 31 #[.int .i64 128] W fun e w' => e = .returned (.string (zerosT 128)) ∧ Below W.heap.size W w' := fun W => zero_any 128 (by omega) W
  have he := list_ne hz
  generalize zerosT 128 = ZZ at kz he
  have kr : ∀ W, Calls Tryz.prog 59 #[.string b, .int .i64 0] W fun x w' => x = .returned (.tuple #[iagg ⟨rdB (rdF b 0), rdV (rdF b 0), rdD (rdF b 0)⟩, .int .i64 0]) ∧ Below W.heap.size W w' := fun W => read_good b hb 0 (by omega) hf W
  have kr2 : ∀ W, Calls Tryz.prog 59 #[.string b, .int .i64 1] W fun x w' => x = .returned (.tuple #[iagg im0, .int .i64 6]) ∧ Below W.heap.size W w' := fun W => read_none b hb 1 (by omega) hf2 W
  obtain ⟨xb, hxb⟩ : ∃ x, rdB (rdF b 0) = x := ⟨_, rfl⟩
  obtain ⟨xv, hxv⟩ : ∃ x, rdV (rdF b 0) = x := ⟨_, rfl⟩
  obtain ⟨xd, hxd⟩ : ∃ x, rdD (rdF b 0) = x := ⟨_, rfl⟩
  rw [hxb, hxv, hxd] at kr
  unfold iagg at *
  clear hb hz hf hf2 hxb hxv hxd
  have hbn := Blk.new w TIm #[.int .i64 0, .int .u64 0, .string ⟨#[]⟩]
  have hb0 := belowNew (belowSame w) (.cells #[.int .i64 0, .int .u64 0, .string ⟨#[]⟩] TIm)
  obtain ⟨W0, hW0⟩ : ∃ W0, w.alloc (.cells #[.int .i64 0, .int .u64 0, .string ⟨#[]⟩] TIm) = W0 := ⟨_, rfl⟩
  rw [hW0] at hbn hb0
  obtain ⟨r0, hr0⟩ : ∃ r, w.heap.size = r := ⟨_, rfl⟩
  rw [hr0] at hbn
  have HW0 := Lib.hid (show w.alloc (.cells #[.int .i64 0, .int .u64 0, .string ⟨#[]⟩] TIm) = W0 from hW0)
  have HR0 := Lib.hid hr0
  have HBN := Lib.hid hbn
  have HB0 := Lib.hid hb0
  clear hbn hb0 hW0 hr0
  go_enter Tryz.func28, Tryz.ntmps28
  go_upto_region 1 with fail
  rw [HW0.out, HR0.out]
  go_wp2_with (first
    | (go_at_call 31; refine (kz _).mono ?_; rintro x w1 ⟨rfl, hb1⟩; have BW1 := Lib.hid hb1; clear hb1)
    | (go_at_call 59; ((with_reducible refine (kr _).mono ?_); rintro x w2 ⟨rfl, hb2⟩); have hb3 := belowNew (belowThen BW1.out hb2) (.cells #[.int .i64 xb, .int .u64 xv, .string xd] TIm); have BX := Lib.hid (Blk.new w2 TIm #[.int .i64 xb, .int .u64 xv, .string xd]); have BW2 := Lib.hid hb3; clear hb2 hb3 kr)
    | (go_at_call 59; ((with_reducible refine (kr2 _).mono ?_); rintro x w3 ⟨rfl, hb3⟩); have hb4 := belowNew (belowThen BW2.out hb3) (.cells #[.int .i64 0, .int .u64 0, .string ⟨#[]⟩] TIm); have bx := BX.out.below (belowNew hb3 (.cells #[.int .i64 0, .int .u64 0, .string ⟨#[]⟩] TIm)) BX.out.lt; have x0 : (w3.alloc (.cells #[.int .i64 0, .int .u64 0, .string ⟨#[]⟩] TIm)).cell? ⟨w2.heap.size, 0, none⟩ = some (.int .i64 xb) := bx.cell 0; have x1 : (w3.alloc (.cells #[.int .i64 0, .int .u64 0, .string ⟨#[]⟩] TIm)).cell? ⟨w2.heap.size, 1, none⟩ = some (.int .u64 xv) := bx.cell 1; have x2 : (w3.alloc (.cells #[.int .i64 0, .int .u64 0, .string ⟨#[]⟩] TIm)).cell? ⟨w2.heap.size, 2, none⟩ = some (.string xd) := bx.cell 2; have bz := Blk.new w3 TIm #[.int .i64 0, .int .u64 0, .string ⟨#[]⟩]; have u0 : (w3.alloc (.cells #[.int .i64 0, .int .u64 0, .string ⟨#[]⟩] TIm)).cell? ⟨w3.heap.size, 0, none⟩ = some (.int .i64 0) := bz.cell 0; have u1 : (w3.alloc (.cells #[.int .i64 0, .int .u64 0, .string ⟨#[]⟩] TIm)).cell? ⟨w3.heap.size, 1, none⟩ = some (.int .u64 0) := bz.cell 1; have u2 : (w3.alloc (.cells #[.int .i64 0, .int .u64 0, .string ⟨#[]⟩] TIm)).cell? ⟨w3.heap.size, 2, none⟩ = some (.string ⟨#[]⟩) := bz.cell 2; have br := HBN.out.below hb4 HBN.out.lt; have y0 : (w3.alloc (.cells #[.int .i64 0, .int .u64 0, .string ⟨#[]⟩] TIm)).cell? ⟨r0, 0, none⟩ = some (.int .i64 0) := br.cell 0; have f0 := br.frozen 0; have y1 : (w3.alloc (.cells #[.int .i64 0, .int .u64 0, .string ⟨#[]⟩] TIm)).cell? ⟨r0, 1, none⟩ = some (.int .u64 0) := br.cell 1; have f1 := br.frozen 1; have y2 : (w3.alloc (.cells #[.int .i64 0, .int .u64 0, .string ⟨#[]⟩] TIm)).cell? ⟨r0, 2, none⟩ = some (.string ⟨#[]⟩) := br.cell 2; have f2 := br.frozen 2; have HBR := Lib.hid br; have HBE := Lib.hid hb4; clear br; clear hb3 hb4 bx bz kr2))
  have b4 := ((HBR.out.set_ 0 (.int .i64 0)).set_ 1 (.int .u64 0)).set_ 2 (.string ⟨#[]⟩)
  have hr0 : w.heap.size ≤ r0 := by rw [HR0.out]; exact Nat.le_refl _
  have hA : Below w.heap.size w (w3.alloc (.cells #[.int .i64 0, .int .u64 0, .string ⟨#[]⟩] TIm)) := HB0.out.trans (HBE.out.mono HB0.out.size)
  have hE : Below w.heap.size w ((((w3.alloc (.cells #[.int .i64 0, .int .u64 0, .string ⟨#[]⟩] TIm)).setCell ⟨r0, 0, none⟩ (.int .i64 0)).setCell ⟨r0, 1, none⟩ (.int .u64 0)).setCell ⟨r0, 2, none⟩ (.string ⟨#[]⟩)) := ((hA.setCell (p := ⟨r0, 0, none⟩) hr0 (.int .i64 0)).setCell (p := ⟨r0, 1, none⟩) hr0 (.int .u64 0)).setCell (p := ⟨r0, 2, none⟩) hr0 (.string ⟨#[]⟩)
  have d0 : ((((w3.alloc (.cells #[.int .i64 0, .int .u64 0, .string ⟨#[]⟩] TIm)).setCell ⟨r0, 0, none⟩ (.int .i64 0)).setCell ⟨r0, 1, none⟩ (.int .u64 0)).setCell ⟨r0, 2, none⟩ (.string ⟨#[]⟩)).cell? ⟨r0, 0, none⟩ = some (.int .i64 0) := b4.cell 0
  have d1 : ((((w3.alloc (.cells #[.int .i64 0, .int .u64 0, .string ⟨#[]⟩] TIm)).setCell ⟨r0, 0, none⟩ (.int .i64 0)).setCell ⟨r0, 1, none⟩ (.int .u64 0)).setCell ⟨r0, 2, none⟩ (.string ⟨#[]⟩)).cell? ⟨r0, 1, none⟩ = some (.int .u64 0) := b4.cell 1
  have d2 : ((((w3.alloc (.cells #[.int .i64 0, .int .u64 0, .string ⟨#[]⟩] TIm)).setCell ⟨r0, 0, none⟩ (.int .i64 0)).setCell ⟨r0, 1, none⟩ (.int .u64 0)).setCell ⟨r0, 2, none⟩ (.string ⟨#[]⟩)).cell? ⟨r0, 2, none⟩ = some (.string ⟨#[]⟩) := b4.cell 2
  exact bodyPost_ret (v := .tuple #[.agg #[.int .i64 0, .int .u64 0, .string ⟨#[]⟩], .int .i64 6]) (by simp [results, Tryz.results28, go_sem, d0, d1, d2]) rfl ⟨rfl, hE⟩
set_option maxHeartbeats 8000000 in
theorem get_vers (n : Int) (b : ByteArray) (hb : b.size = 128) (hz : b ≠ zerosT 128) (hf : fitsR (sect b 0) = true) (hf2 : fitsR (sect b 1) = true) (hx : rdB (rdF b 0) = n) (hy : rdB (rdF b 1) = n) (hn : n < 4096) (hv : rdV (rdF b 0) ≠ rdV (rdF b 1)) (w : World) : Calls Tryz.prog 28 #[.int .i64 n, .string b] w fun x w' => x = .returned (.tuple #[iagg im0, .int .i64 6]) ∧ Below w.heap.size w w' := by
  have hs2 : ((b.size : Int) == 128) = true := by rw [hb]; rfl
  have kz : ∀ W, Calls Tryz.prog 31 #[.int .i64 128] W fun e w' => e = .returned (.string (zerosT 128)) ∧ Below W.heap.size W w' := fun W => zero_any 128 (by omega) W
  have he := list_ne hz
  generalize zerosT 128 = ZZ at kz he
  have kr : ∀ W, Calls Tryz.prog 59 #[.string b, .int .i64 0] W fun x w' => x = .returned (.tuple #[iagg ⟨rdB (rdF b 0), rdV (rdF b 0), rdD (rdF b 0)⟩, .int .i64 0]) ∧ Below W.heap.size W w' := fun W => read_good b hb 0 (by omega) hf W
  have kr2 : ∀ W, Calls Tryz.prog 59 #[.string b, .int .i64 1] W fun x w' => x = .returned (.tuple #[iagg ⟨rdB (rdF b 1), rdV (rdF b 1), rdD (rdF b 1)⟩, .int .i64 0]) ∧ Below W.heap.size W w' := fun W => read_good b hb 1 (by omega) hf2 W
  have hds : (rdD (rdF b 0)).size = 48 ∧ (rdD (rdF b 1)).size = 48 := by
    have h0 := rdF_size b hb (k := 0) (by omega)
    have h1 := rdF_size b hb (k := 1) (by omega)
    unfold rdD
    simp only [ByteArray.size_extract]
    omega
  have hcat : ¬ 9223372036854775807 < (rdD (rdF b 0)).size + (rdD (rdF b 1)).size := by omega
  rw [hx] at kr
  rw [hy] at kr2
  obtain ⟨xv, hxv⟩ : ∃ x, rdV (rdF b 0) = x := ⟨_, rfl⟩
  obtain ⟨yv, hyv⟩ : ∃ x, rdV (rdF b 1) = x := ⟨_, rfl⟩
  rw [hxv] at kr hv
  rw [hyv] at kr2 hv
  obtain ⟨xd, hxd⟩ : ∃ x, rdD (rdF b 0) = x := ⟨_, rfl⟩
  obtain ⟨yd, hyd⟩ : ∃ x, rdD (rdF b 1) = x := ⟨_, rfl⟩
  rw [hxd] at kr hcat
  rw [hyd] at kr2 hcat
  have m3 : decide (4096 ≤ n) = false := by simp; omega
  have m4 : (xv == yv) = false := by simpa using hv
  unfold iagg at *
  clear hb hz hf hf2 hxv hxd hyd hds hx hy hv hyv
  have hbn := Blk.new w TIm #[.int .i64 0, .int .u64 0, .string ⟨#[]⟩]
  have hb0 := belowNew (belowSame w) (.cells #[.int .i64 0, .int .u64 0, .string ⟨#[]⟩] TIm)
  obtain ⟨W0, hW0⟩ : ∃ W0, w.alloc (.cells #[.int .i64 0, .int .u64 0, .string ⟨#[]⟩] TIm) = W0 := ⟨_, rfl⟩
  rw [hW0] at hbn hb0
  obtain ⟨r0, hr0⟩ : ∃ r, w.heap.size = r := ⟨_, rfl⟩
  rw [hr0] at hbn
  have HW0 := Lib.hid (show w.alloc (.cells #[.int .i64 0, .int .u64 0, .string ⟨#[]⟩] TIm) = W0 from hW0)
  have HR0 := Lib.hid hr0
  have HBN := Lib.hid hbn
  have HB0 := Lib.hid hb0
  clear hbn hb0 hW0 hr0
  go_enter Tryz.func28, Tryz.ntmps28
  go_upto_region 1 with fail
  rw [HW0.out, HR0.out]
  go_wp2_with (first
    | (go_at_call 31; refine (kz _).mono ?_; rintro x w1 ⟨rfl, hb1⟩; have BW1 := Lib.hid hb1; clear hb1)
    | (go_at_call 59; ((with_reducible refine (kr _).mono ?_); rintro x w2 ⟨rfl, hb2⟩); have hb3 := belowNew (belowThen BW1.out hb2) (.cells #[.int .i64 n, .int .u64 xv, .string xd] TIm); have BX := Lib.hid (Blk.new w2 TIm #[.int .i64 n, .int .u64 xv, .string xd]); have BW2 := Lib.hid hb3; clear hb2 hb3 kr)
    | (go_at_call 59; ((with_reducible refine (kr2 _).mono ?_); rintro x w3 ⟨rfl, hb3⟩); have hb4 := belowNew (belowThen BW2.out hb3) (.cells #[.int .i64 n, .int .u64 yv, .string yd] TIm); have bx := BX.out.below (belowNew hb3 (.cells #[.int .i64 n, .int .u64 yv, .string yd] TIm)) BX.out.lt; have x0 : (w3.alloc (.cells #[.int .i64 n, .int .u64 yv, .string yd] TIm)).cell? ⟨w2.heap.size, 0, none⟩ = some (.int .i64 n) := bx.cell 0; have x1 : (w3.alloc (.cells #[.int .i64 n, .int .u64 yv, .string yd] TIm)).cell? ⟨w2.heap.size, 1, none⟩ = some (.int .u64 xv) := bx.cell 1; have x2 : (w3.alloc (.cells #[.int .i64 n, .int .u64 yv, .string yd] TIm)).cell? ⟨w2.heap.size, 2, none⟩ = some (.string xd) := bx.cell 2; have bz := Blk.new w3 TIm #[.int .i64 n, .int .u64 yv, .string yd]; have u0 : (w3.alloc (.cells #[.int .i64 n, .int .u64 yv, .string yd] TIm)).cell? ⟨w3.heap.size, 0, none⟩ = some (.int .i64 n) := bz.cell 0; have u1 : (w3.alloc (.cells #[.int .i64 n, .int .u64 yv, .string yd] TIm)).cell? ⟨w3.heap.size, 1, none⟩ = some (.int .u64 yv) := bz.cell 1; have u2 : (w3.alloc (.cells #[.int .i64 n, .int .u64 yv, .string yd] TIm)).cell? ⟨w3.heap.size, 2, none⟩ = some (.string yd) := bz.cell 2; have br := HBN.out.below hb4 HBN.out.lt; have y0 : (w3.alloc (.cells #[.int .i64 n, .int .u64 yv, .string yd] TIm)).cell? ⟨r0, 0, none⟩ = some (.int .i64 0) := br.cell 0; have f0 := br.frozen 0; have y1 : (w3.alloc (.cells #[.int .i64 n, .int .u64 yv, .string yd] TIm)).cell? ⟨r0, 1, none⟩ = some (.int .u64 0) := br.cell 1; have f1 := br.frozen 1; have y2 : (w3.alloc (.cells #[.int .i64 n, .int .u64 yv, .string yd] TIm)).cell? ⟨r0, 2, none⟩ = some (.string ⟨#[]⟩) := br.cell 2; have f2 := br.frozen 2; have HBR := Lib.hid br; have HBE := Lib.hid hb4; clear br; clear hb3 hb4 bx bz kr2))
  have b4 := ((HBR.out.set_ 0 (.int .i64 0)).set_ 1 (.int .u64 0)).set_ 2 (.string ⟨#[]⟩)
  have hr0 : w.heap.size ≤ r0 := by rw [HR0.out]; exact Nat.le_refl _
  have hA : Below w.heap.size w (w3.alloc (.cells #[.int .i64 n, .int .u64 yv, .string yd] TIm)) := HB0.out.trans (HBE.out.mono HB0.out.size)
  have hE : Below w.heap.size w ((((w3.alloc (.cells #[.int .i64 n, .int .u64 yv, .string yd] TIm)).setCell ⟨r0, 0, none⟩ (.int .i64 0)).setCell ⟨r0, 1, none⟩ (.int .u64 0)).setCell ⟨r0, 2, none⟩ (.string ⟨#[]⟩)) := ((hA.setCell (p := ⟨r0, 0, none⟩) hr0 (.int .i64 0)).setCell (p := ⟨r0, 1, none⟩) hr0 (.int .u64 0)).setCell (p := ⟨r0, 2, none⟩) hr0 (.string ⟨#[]⟩)
  have d0 : ((((w3.alloc (.cells #[.int .i64 n, .int .u64 yv, .string yd] TIm)).setCell ⟨r0, 0, none⟩ (.int .i64 0)).setCell ⟨r0, 1, none⟩ (.int .u64 0)).setCell ⟨r0, 2, none⟩ (.string ⟨#[]⟩)).cell? ⟨r0, 0, none⟩ = some (.int .i64 0) := b4.cell 0
  have d1 : ((((w3.alloc (.cells #[.int .i64 n, .int .u64 yv, .string yd] TIm)).setCell ⟨r0, 0, none⟩ (.int .i64 0)).setCell ⟨r0, 1, none⟩ (.int .u64 0)).setCell ⟨r0, 2, none⟩ (.string ⟨#[]⟩)).cell? ⟨r0, 1, none⟩ = some (.int .u64 0) := b4.cell 1
  have d2 : ((((w3.alloc (.cells #[.int .i64 n, .int .u64 yv, .string yd] TIm)).setCell ⟨r0, 0, none⟩ (.int .i64 0)).setCell ⟨r0, 1, none⟩ (.int .u64 0)).setCell ⟨r0, 2, none⟩ (.string ⟨#[]⟩)).cell? ⟨r0, 2, none⟩ = some (.string ⟨#[]⟩) := b4.cell 2
  exact bodyPost_ret (v := .tuple #[.agg #[.int .i64 0, .int .u64 0, .string ⟨#[]⟩], .int .i64 6]) (by simp [results, Tryz.results28, go_sem, d0, d1, d2]) rfl ⟨rfl, hE⟩
set_option maxHeartbeats 8000000 in
theorem get_good (n : Int) (b : ByteArray) (hb : b.size = 128) (hz : b ≠ zerosT 128) (hf : fitsR (sect b 0) = true) (hf2 : fitsR (sect b 1) = true) (hx : rdB (rdF b 0) = n) (hy : rdB (rdF b 1) = n) (hn : n < 4096) (hv : rdV (rdF b 0) = rdV (rdF b 1)) (w : World) : Calls Tryz.prog 28 #[.int .i64 n, .string b] w fun x w' => x = .returned (.tuple #[iagg ⟨n, rdV (rdF b 0), rdD (rdF b 0) ++ rdD (rdF b 1)⟩, .int .i64 0]) ∧ Below w.heap.size w w' := by
  have hs2 : ((b.size : Int) == 128) = true := by rw [hb]; rfl
  have kz : ∀ W, Calls Tryz.prog 31 #[.int .i64 128] W fun e w' => e = .returned (.string (zerosT 128)) ∧ Below W.heap.size W w' := fun W => zero_any 128 (by omega) W
  have he := list_ne hz
  generalize zerosT 128 = ZZ at kz he
  have kr : ∀ W, Calls Tryz.prog 59 #[.string b, .int .i64 0] W fun x w' => x = .returned (.tuple #[iagg ⟨rdB (rdF b 0), rdV (rdF b 0), rdD (rdF b 0)⟩, .int .i64 0]) ∧ Below W.heap.size W w' := fun W => read_good b hb 0 (by omega) hf W
  have kr2 : ∀ W, Calls Tryz.prog 59 #[.string b, .int .i64 1] W fun x w' => x = .returned (.tuple #[iagg ⟨rdB (rdF b 1), rdV (rdF b 1), rdD (rdF b 1)⟩, .int .i64 0]) ∧ Below W.heap.size W w' := fun W => read_good b hb 1 (by omega) hf2 W
  have hds : (rdD (rdF b 0)).size = 48 ∧ (rdD (rdF b 1)).size = 48 := by
    have h0 := rdF_size b hb (k := 0) (by omega)
    have h1 := rdF_size b hb (k := 1) (by omega)
    unfold rdD
    simp only [ByteArray.size_extract]
    omega
  have hcat : ¬ 9223372036854775807 < (rdD (rdF b 0)).size + (rdD (rdF b 1)).size := by omega
  rw [hx] at kr
  rw [hy] at kr2
  rw [← hv] at kr2
  obtain ⟨xv, hxv⟩ : ∃ x, rdV (rdF b 0) = x := ⟨_, rfl⟩
  rw [hxv] at kr kr2 ⊢
  obtain ⟨xd, hxd⟩ : ∃ x, rdD (rdF b 0) = x := ⟨_, rfl⟩
  obtain ⟨yd, hyd⟩ : ∃ x, rdD (rdF b 1) = x := ⟨_, rfl⟩
  rw [hxd] at kr hcat ⊢
  rw [hyd] at kr2 hcat ⊢
  have m3 : decide (4096 ≤ n) = false := by simp; omega
  unfold iagg at *
  clear hb hz hf hf2 hxv hxd hyd hds hx hy hv
  have hbn := Blk.new w TIm #[.int .i64 0, .int .u64 0, .string ⟨#[]⟩]
  have hb0 := belowNew (belowSame w) (.cells #[.int .i64 0, .int .u64 0, .string ⟨#[]⟩] TIm)
  obtain ⟨W0, hW0⟩ : ∃ W0, w.alloc (.cells #[.int .i64 0, .int .u64 0, .string ⟨#[]⟩] TIm) = W0 := ⟨_, rfl⟩
  rw [hW0] at hbn hb0
  obtain ⟨r0, hr0⟩ : ∃ r, w.heap.size = r := ⟨_, rfl⟩
  rw [hr0] at hbn
  have HW0 := Lib.hid (show w.alloc (.cells #[.int .i64 0, .int .u64 0, .string ⟨#[]⟩] TIm) = W0 from hW0)
  have HR0 := Lib.hid hr0
  have HBN := Lib.hid hbn
  have HB0 := Lib.hid hb0
  clear hbn hb0 hW0 hr0
  go_enter Tryz.func28, Tryz.ntmps28
  go_upto_region 1 with fail
  rw [HW0.out, HR0.out]
  go_wp2_with (first
    | (go_at_call 31; refine (kz _).mono ?_; rintro x w1 ⟨rfl, hb1⟩; have BW1 := Lib.hid hb1; clear hb1)
    | (go_at_call 59; ((with_reducible refine (kr _).mono ?_); rintro x w2 ⟨rfl, hb2⟩); have hb3 := belowNew (belowThen BW1.out hb2) (.cells #[.int .i64 n, .int .u64 xv, .string xd] TIm); have BX := Lib.hid (Blk.new w2 TIm #[.int .i64 n, .int .u64 xv, .string xd]); have BW2 := Lib.hid hb3; clear hb2 hb3 kr)
    | (go_at_call 59; ((with_reducible refine (kr2 _).mono ?_); rintro x w3 ⟨rfl, hb3⟩); have hb4 := belowNew (belowThen BW2.out hb3) (.cells #[.int .i64 n, .int .u64 xv, .string yd] TIm); have bx := BX.out.below (belowNew hb3 (.cells #[.int .i64 n, .int .u64 xv, .string yd] TIm)) BX.out.lt; have x0 : (w3.alloc (.cells #[.int .i64 n, .int .u64 xv, .string yd] TIm)).cell? ⟨w2.heap.size, 0, none⟩ = some (.int .i64 n) := bx.cell 0; have x1 : (w3.alloc (.cells #[.int .i64 n, .int .u64 xv, .string yd] TIm)).cell? ⟨w2.heap.size, 1, none⟩ = some (.int .u64 xv) := bx.cell 1; have x2 : (w3.alloc (.cells #[.int .i64 n, .int .u64 xv, .string yd] TIm)).cell? ⟨w2.heap.size, 2, none⟩ = some (.string xd) := bx.cell 2; have bz := Blk.new w3 TIm #[.int .i64 n, .int .u64 xv, .string yd]; have u0 : (w3.alloc (.cells #[.int .i64 n, .int .u64 xv, .string yd] TIm)).cell? ⟨w3.heap.size, 0, none⟩ = some (.int .i64 n) := bz.cell 0; have u1 : (w3.alloc (.cells #[.int .i64 n, .int .u64 xv, .string yd] TIm)).cell? ⟨w3.heap.size, 1, none⟩ = some (.int .u64 xv) := bz.cell 1; have u2 : (w3.alloc (.cells #[.int .i64 n, .int .u64 xv, .string yd] TIm)).cell? ⟨w3.heap.size, 2, none⟩ = some (.string yd) := bz.cell 2; have br := HBN.out.below hb4 HBN.out.lt; have y0 : (w3.alloc (.cells #[.int .i64 n, .int .u64 xv, .string yd] TIm)).cell? ⟨r0, 0, none⟩ = some (.int .i64 0) := br.cell 0; have f0 := br.frozen 0; have y1 : (w3.alloc (.cells #[.int .i64 n, .int .u64 xv, .string yd] TIm)).cell? ⟨r0, 1, none⟩ = some (.int .u64 0) := br.cell 1; have f1 := br.frozen 1; have y2 : (w3.alloc (.cells #[.int .i64 n, .int .u64 xv, .string yd] TIm)).cell? ⟨r0, 2, none⟩ = some (.string ⟨#[]⟩) := br.cell 2; have f2 := br.frozen 2; have HBR := Lib.hid br; have HBE := Lib.hid hb4; clear br; clear hb3 hb4 bx bz kr2))
  have b4 := ((HBR.out.set_ 0 (.int .i64 n)).set_ 1 (.int .u64 xv)).set_ 2 (.string (xd ++ yd))
  have hr0 : w.heap.size ≤ r0 := by rw [HR0.out]; exact Nat.le_refl _
  have hA : Below w.heap.size w (w3.alloc (.cells #[.int .i64 n, .int .u64 xv, .string yd] TIm)) := HB0.out.trans (HBE.out.mono HB0.out.size)
  have hE : Below w.heap.size w ((((w3.alloc (.cells #[.int .i64 n, .int .u64 xv, .string yd] TIm)).setCell ⟨r0, 0, none⟩ (.int .i64 n)).setCell ⟨r0, 1, none⟩ (.int .u64 xv)).setCell ⟨r0, 2, none⟩ (.string (xd ++ yd))) := ((hA.setCell (p := ⟨r0, 0, none⟩) hr0 (.int .i64 n)).setCell (p := ⟨r0, 1, none⟩) hr0 (.int .u64 xv)).setCell (p := ⟨r0, 2, none⟩) hr0 (.string (xd ++ yd))
  have d0 : ((((w3.alloc (.cells #[.int .i64 n, .int .u64 xv, .string yd] TIm)).setCell ⟨r0, 0, none⟩ (.int .i64 n)).setCell ⟨r0, 1, none⟩ (.int .u64 xv)).setCell ⟨r0, 2, none⟩ (.string (xd ++ yd))).cell? ⟨r0, 0, none⟩ = some (.int .i64 n) := b4.cell 0
  have d1 : ((((w3.alloc (.cells #[.int .i64 n, .int .u64 xv, .string yd] TIm)).setCell ⟨r0, 0, none⟩ (.int .i64 n)).setCell ⟨r0, 1, none⟩ (.int .u64 xv)).setCell ⟨r0, 2, none⟩ (.string (xd ++ yd))).cell? ⟨r0, 1, none⟩ = some (.int .u64 xv) := b4.cell 1
  have d2 : ((((w3.alloc (.cells #[.int .i64 n, .int .u64 xv, .string yd] TIm)).setCell ⟨r0, 0, none⟩ (.int .i64 n)).setCell ⟨r0, 1, none⟩ (.int .u64 xv)).setCell ⟨r0, 2, none⟩ (.string (xd ++ yd))).cell? ⟨r0, 2, none⟩ = some (.string (xd ++ yd)) := b4.cell 2
  exact bodyPost_ret (v := .tuple #[.agg #[.int .i64 n, .int .u64 xv, .string (xd ++ yd)], .int .i64 0]) (by simp [results, Tryz.results28, go_sem, d0, d1, d2]) rfl ⟨rfl, hE⟩
set_option maxHeartbeats 8000000 in
theorem get_num3 (n : Int) (b : ByteArray) (hb : b.size = 128) (hz : b ≠ zerosT 128) (hf : fitsR (sect b 0) = true) (hf2 : fitsR (sect b 1) = true) (hx : rdB (rdF b 0) = n) (hy : rdB (rdF b 1) = n) (hn : 4096 ≤ n) (w : World) : Calls Tryz.prog 28 #[.int .i64 n, .string b] w fun x w' => x = .returned (.tuple #[iagg im0, .int .i64 4]) ∧ Below w.heap.size w w' := by
  have hs2 : ((b.size : Int) == 128) = true := by rw [hb]; rfl
  have kz : ∀ W, Calls Tryz.prog 31 #[.int .i64 128] W fun e w' => e = .returned (.string (zerosT 128)) ∧ Below W.heap.size W w' := fun W => zero_any 128 (by omega) W
  have he := list_ne hz
  generalize zerosT 128 = ZZ at kz he
  have kr : ∀ W, Calls Tryz.prog 59 #[.string b, .int .i64 0] W fun x w' => x = .returned (.tuple #[iagg ⟨rdB (rdF b 0), rdV (rdF b 0), rdD (rdF b 0)⟩, .int .i64 0]) ∧ Below W.heap.size W w' := fun W => read_good b hb 0 (by omega) hf W
  have kr2 : ∀ W, Calls Tryz.prog 59 #[.string b, .int .i64 1] W fun x w' => x = .returned (.tuple #[iagg ⟨rdB (rdF b 1), rdV (rdF b 1), rdD (rdF b 1)⟩, .int .i64 0]) ∧ Below W.heap.size W w' := fun W => read_good b hb 1 (by omega) hf2 W
  have hds : (rdD (rdF b 0)).size = 48 ∧ (rdD (rdF b 1)).size = 48 := by
    have h0 := rdF_size b hb (k := 0) (by omega)
    have h1 := rdF_size b hb (k := 1) (by omega)
    unfold rdD
    simp only [ByteArray.size_extract]
    omega
  have hcat : ¬ 9223372036854775807 < (rdD (rdF b 0)).size + (rdD (rdF b 1)).size := by omega
  rw [hx] at kr
  rw [hy] at kr2
  obtain ⟨xv, hxv⟩ : ∃ x, rdV (rdF b 0) = x := ⟨_, rfl⟩
  obtain ⟨yv, hyv⟩ : ∃ x, rdV (rdF b 1) = x := ⟨_, rfl⟩
  rw [hxv] at kr 
  rw [hyv] at kr2 
  obtain ⟨xd, hxd⟩ : ∃ x, rdD (rdF b 0) = x := ⟨_, rfl⟩
  obtain ⟨yd, hyd⟩ : ∃ x, rdD (rdF b 1) = x := ⟨_, rfl⟩
  rw [hxd] at kr hcat
  rw [hyd] at kr2 hcat
  have m3 : decide (4096 ≤ n) = true := by simp; omega
  unfold iagg at *
  clear hb hz hf hf2 hxv hxd hyd hds hx hy hyv
  have hbn := Blk.new w TIm #[.int .i64 0, .int .u64 0, .string ⟨#[]⟩]
  have hb0 := belowNew (belowSame w) (.cells #[.int .i64 0, .int .u64 0, .string ⟨#[]⟩] TIm)
  obtain ⟨W0, hW0⟩ : ∃ W0, w.alloc (.cells #[.int .i64 0, .int .u64 0, .string ⟨#[]⟩] TIm) = W0 := ⟨_, rfl⟩
  rw [hW0] at hbn hb0
  obtain ⟨r0, hr0⟩ : ∃ r, w.heap.size = r := ⟨_, rfl⟩
  rw [hr0] at hbn
  have HW0 := Lib.hid (show w.alloc (.cells #[.int .i64 0, .int .u64 0, .string ⟨#[]⟩] TIm) = W0 from hW0)
  have HR0 := Lib.hid hr0
  have HBN := Lib.hid hbn
  have HB0 := Lib.hid hb0
  clear hbn hb0 hW0 hr0
  go_enter Tryz.func28, Tryz.ntmps28
  go_upto_region 1 with fail
  rw [HW0.out, HR0.out]
  go_wp2_with (first
    | (go_at_call 31; refine (kz _).mono ?_; rintro x w1 ⟨rfl, hb1⟩; have BW1 := Lib.hid hb1; clear hb1)
    | (go_at_call 59; ((with_reducible refine (kr _).mono ?_); rintro x w2 ⟨rfl, hb2⟩); have hb3 := belowNew (belowThen BW1.out hb2) (.cells #[.int .i64 n, .int .u64 xv, .string xd] TIm); have BX := Lib.hid (Blk.new w2 TIm #[.int .i64 n, .int .u64 xv, .string xd]); have BW2 := Lib.hid hb3; clear hb2 hb3 kr)
    | (go_at_call 59; ((with_reducible refine (kr2 _).mono ?_); rintro x w3 ⟨rfl, hb3⟩); have hb4 := belowNew (belowThen BW2.out hb3) (.cells #[.int .i64 n, .int .u64 yv, .string yd] TIm); have bx := BX.out.below (belowNew hb3 (.cells #[.int .i64 n, .int .u64 yv, .string yd] TIm)) BX.out.lt; have x0 : (w3.alloc (.cells #[.int .i64 n, .int .u64 yv, .string yd] TIm)).cell? ⟨w2.heap.size, 0, none⟩ = some (.int .i64 n) := bx.cell 0; have x1 : (w3.alloc (.cells #[.int .i64 n, .int .u64 yv, .string yd] TIm)).cell? ⟨w2.heap.size, 1, none⟩ = some (.int .u64 xv) := bx.cell 1; have x2 : (w3.alloc (.cells #[.int .i64 n, .int .u64 yv, .string yd] TIm)).cell? ⟨w2.heap.size, 2, none⟩ = some (.string xd) := bx.cell 2; have bz := Blk.new w3 TIm #[.int .i64 n, .int .u64 yv, .string yd]; have u0 : (w3.alloc (.cells #[.int .i64 n, .int .u64 yv, .string yd] TIm)).cell? ⟨w3.heap.size, 0, none⟩ = some (.int .i64 n) := bz.cell 0; have u1 : (w3.alloc (.cells #[.int .i64 n, .int .u64 yv, .string yd] TIm)).cell? ⟨w3.heap.size, 1, none⟩ = some (.int .u64 yv) := bz.cell 1; have u2 : (w3.alloc (.cells #[.int .i64 n, .int .u64 yv, .string yd] TIm)).cell? ⟨w3.heap.size, 2, none⟩ = some (.string yd) := bz.cell 2; have br := HBN.out.below hb4 HBN.out.lt; have y0 : (w3.alloc (.cells #[.int .i64 n, .int .u64 yv, .string yd] TIm)).cell? ⟨r0, 0, none⟩ = some (.int .i64 0) := br.cell 0; have f0 := br.frozen 0; have y1 : (w3.alloc (.cells #[.int .i64 n, .int .u64 yv, .string yd] TIm)).cell? ⟨r0, 1, none⟩ = some (.int .u64 0) := br.cell 1; have f1 := br.frozen 1; have y2 : (w3.alloc (.cells #[.int .i64 n, .int .u64 yv, .string yd] TIm)).cell? ⟨r0, 2, none⟩ = some (.string ⟨#[]⟩) := br.cell 2; have f2 := br.frozen 2; have HBR := Lib.hid br; have HBE := Lib.hid hb4; clear br; clear hb3 hb4 bx bz kr2))
  have b4 := ((HBR.out.set_ 0 (.int .i64 0)).set_ 1 (.int .u64 0)).set_ 2 (.string ⟨#[]⟩)
  have hr0 : w.heap.size ≤ r0 := by rw [HR0.out]; exact Nat.le_refl _
  have hA : Below w.heap.size w (w3.alloc (.cells #[.int .i64 n, .int .u64 yv, .string yd] TIm)) := HB0.out.trans (HBE.out.mono HB0.out.size)
  have hE : Below w.heap.size w ((((w3.alloc (.cells #[.int .i64 n, .int .u64 yv, .string yd] TIm)).setCell ⟨r0, 0, none⟩ (.int .i64 0)).setCell ⟨r0, 1, none⟩ (.int .u64 0)).setCell ⟨r0, 2, none⟩ (.string ⟨#[]⟩)) := ((hA.setCell (p := ⟨r0, 0, none⟩) hr0 (.int .i64 0)).setCell (p := ⟨r0, 1, none⟩) hr0 (.int .u64 0)).setCell (p := ⟨r0, 2, none⟩) hr0 (.string ⟨#[]⟩)
  have d0 : ((((w3.alloc (.cells #[.int .i64 n, .int .u64 yv, .string yd] TIm)).setCell ⟨r0, 0, none⟩ (.int .i64 0)).setCell ⟨r0, 1, none⟩ (.int .u64 0)).setCell ⟨r0, 2, none⟩ (.string ⟨#[]⟩)).cell? ⟨r0, 0, none⟩ = some (.int .i64 0) := b4.cell 0
  have d1 : ((((w3.alloc (.cells #[.int .i64 n, .int .u64 yv, .string yd] TIm)).setCell ⟨r0, 0, none⟩ (.int .i64 0)).setCell ⟨r0, 1, none⟩ (.int .u64 0)).setCell ⟨r0, 2, none⟩ (.string ⟨#[]⟩)).cell? ⟨r0, 1, none⟩ = some (.int .u64 0) := b4.cell 1
  have d2 : ((((w3.alloc (.cells #[.int .i64 n, .int .u64 yv, .string yd] TIm)).setCell ⟨r0, 0, none⟩ (.int .i64 0)).setCell ⟨r0, 1, none⟩ (.int .u64 0)).setCell ⟨r0, 2, none⟩ (.string ⟨#[]⟩)).cell? ⟨r0, 2, none⟩ = some (.string ⟨#[]⟩) := b4.cell 2
  exact bodyPost_ret (v := .tuple #[.agg #[.int .i64 0, .int .u64 0, .string ⟨#[]⟩], .int .i64 4]) (by simp [results, Tryz.results28, go_sem, d0, d1, d2]) rfl ⟨rfl, hE⟩
set_option maxHeartbeats 8000000 in
theorem get_num2 (n : Int) (b : ByteArray) (hb : b.size = 128) (hz : b ≠ zerosT 128) (hf : fitsR (sect b 0) = true) (hf2 : fitsR (sect b 1) = true) (hx : rdB (rdF b 0) = n) (hy : rdB (rdF b 1) ≠ n) (w : World) : Calls Tryz.prog 28 #[.int .i64 n, .string b] w fun x w' => x = .returned (.tuple #[iagg im0, .int .i64 4]) ∧ Below w.heap.size w w' := by
  have hs2 : ((b.size : Int) == 128) = true := by rw [hb]; rfl
  have kz : ∀ W, Calls Tryz.prog 31 #[.int .i64 128] W fun e w' => e = .returned (.string (zerosT 128)) ∧ Below W.heap.size W w' := fun W => zero_any 128 (by omega) W
  have he := list_ne hz
  generalize zerosT 128 = ZZ at kz he
  have kr : ∀ W, Calls Tryz.prog 59 #[.string b, .int .i64 0] W fun x w' => x = .returned (.tuple #[iagg ⟨rdB (rdF b 0), rdV (rdF b 0), rdD (rdF b 0)⟩, .int .i64 0]) ∧ Below W.heap.size W w' := fun W => read_good b hb 0 (by omega) hf W
  have kr2 : ∀ W, Calls Tryz.prog 59 #[.string b, .int .i64 1] W fun x w' => x = .returned (.tuple #[iagg ⟨rdB (rdF b 1), rdV (rdF b 1), rdD (rdF b 1)⟩, .int .i64 0]) ∧ Below W.heap.size W w' := fun W => read_good b hb 1 (by omega) hf2 W
  have hds : (rdD (rdF b 0)).size = 48 ∧ (rdD (rdF b 1)).size = 48 := by
    have h0 := rdF_size b hb (k := 0) (by omega)
    have h1 := rdF_size b hb (k := 1) (by omega)
    unfold rdD
    simp only [ByteArray.size_extract]
    omega
  have hcat : ¬ 9223372036854775807 < (rdD (rdF b 0)).size + (rdD (rdF b 1)).size := by omega
  rw [hx] at kr
  obtain ⟨yb, hyb⟩ : ∃ x, rdB (rdF b 1) = x := ⟨_, rfl⟩
  rw [hyb] at kr2 hy
  obtain ⟨xv, hxv⟩ : ∃ x, rdV (rdF b 0) = x := ⟨_, rfl⟩
  obtain ⟨yv, hyv⟩ : ∃ x, rdV (rdF b 1) = x := ⟨_, rfl⟩
  rw [hxv] at kr 
  rw [hyv] at kr2 
  obtain ⟨xd, hxd⟩ : ∃ x, rdD (rdF b 0) = x := ⟨_, rfl⟩
  obtain ⟨yd, hyd⟩ : ∃ x, rdD (rdF b 1) = x := ⟨_, rfl⟩
  rw [hxd] at kr hcat
  rw [hyd] at kr2 hcat
  have m2 : (yb == n) = false := by simpa using hy
  have m2b : ¬ yb = n := hy
  unfold iagg at *
  clear hb hz hf hf2 hxv hxd hyd hds hx hy hyb hyv
  have hbn := Blk.new w TIm #[.int .i64 0, .int .u64 0, .string ⟨#[]⟩]
  have hb0 := belowNew (belowSame w) (.cells #[.int .i64 0, .int .u64 0, .string ⟨#[]⟩] TIm)
  obtain ⟨W0, hW0⟩ : ∃ W0, w.alloc (.cells #[.int .i64 0, .int .u64 0, .string ⟨#[]⟩] TIm) = W0 := ⟨_, rfl⟩
  rw [hW0] at hbn hb0
  obtain ⟨r0, hr0⟩ : ∃ r, w.heap.size = r := ⟨_, rfl⟩
  rw [hr0] at hbn
  have HW0 := Lib.hid (show w.alloc (.cells #[.int .i64 0, .int .u64 0, .string ⟨#[]⟩] TIm) = W0 from hW0)
  have HR0 := Lib.hid hr0
  have HBN := Lib.hid hbn
  have HB0 := Lib.hid hb0
  clear hbn hb0 hW0 hr0
  go_enter Tryz.func28, Tryz.ntmps28
  go_upto_region 1 with fail
  rw [HW0.out, HR0.out]
  go_wp2_with (first
    | (go_at_call 31; refine (kz _).mono ?_; rintro x w1 ⟨rfl, hb1⟩; have BW1 := Lib.hid hb1; clear hb1)
    | (go_at_call 59; ((with_reducible refine (kr _).mono ?_); rintro x w2 ⟨rfl, hb2⟩); have hb3 := belowNew (belowThen BW1.out hb2) (.cells #[.int .i64 n, .int .u64 xv, .string xd] TIm); have BX := Lib.hid (Blk.new w2 TIm #[.int .i64 n, .int .u64 xv, .string xd]); have BW2 := Lib.hid hb3; clear hb2 hb3 kr)
    | (go_at_call 59; ((with_reducible refine (kr2 _).mono ?_); rintro x w3 ⟨rfl, hb3⟩); have hb4 := belowNew (belowThen BW2.out hb3) (.cells #[.int .i64 yb, .int .u64 yv, .string yd] TIm); have bx := BX.out.below (belowNew hb3 (.cells #[.int .i64 yb, .int .u64 yv, .string yd] TIm)) BX.out.lt; have x0 : (w3.alloc (.cells #[.int .i64 yb, .int .u64 yv, .string yd] TIm)).cell? ⟨w2.heap.size, 0, none⟩ = some (.int .i64 n) := bx.cell 0; have x1 : (w3.alloc (.cells #[.int .i64 yb, .int .u64 yv, .string yd] TIm)).cell? ⟨w2.heap.size, 1, none⟩ = some (.int .u64 xv) := bx.cell 1; have x2 : (w3.alloc (.cells #[.int .i64 yb, .int .u64 yv, .string yd] TIm)).cell? ⟨w2.heap.size, 2, none⟩ = some (.string xd) := bx.cell 2; have bz := Blk.new w3 TIm #[.int .i64 yb, .int .u64 yv, .string yd]; have u0 : (w3.alloc (.cells #[.int .i64 yb, .int .u64 yv, .string yd] TIm)).cell? ⟨w3.heap.size, 0, none⟩ = some (.int .i64 yb) := bz.cell 0; have u1 : (w3.alloc (.cells #[.int .i64 yb, .int .u64 yv, .string yd] TIm)).cell? ⟨w3.heap.size, 1, none⟩ = some (.int .u64 yv) := bz.cell 1; have u2 : (w3.alloc (.cells #[.int .i64 yb, .int .u64 yv, .string yd] TIm)).cell? ⟨w3.heap.size, 2, none⟩ = some (.string yd) := bz.cell 2; have br := HBN.out.below hb4 HBN.out.lt; have y0 : (w3.alloc (.cells #[.int .i64 yb, .int .u64 yv, .string yd] TIm)).cell? ⟨r0, 0, none⟩ = some (.int .i64 0) := br.cell 0; have f0 := br.frozen 0; have y1 : (w3.alloc (.cells #[.int .i64 yb, .int .u64 yv, .string yd] TIm)).cell? ⟨r0, 1, none⟩ = some (.int .u64 0) := br.cell 1; have f1 := br.frozen 1; have y2 : (w3.alloc (.cells #[.int .i64 yb, .int .u64 yv, .string yd] TIm)).cell? ⟨r0, 2, none⟩ = some (.string ⟨#[]⟩) := br.cell 2; have f2 := br.frozen 2; have HBR := Lib.hid br; have HBE := Lib.hid hb4; clear br; clear hb3 hb4 bx bz kr2))
  have b4 := ((HBR.out.set_ 0 (.int .i64 0)).set_ 1 (.int .u64 0)).set_ 2 (.string ⟨#[]⟩)
  have hr0 : w.heap.size ≤ r0 := by rw [HR0.out]; exact Nat.le_refl _
  have hA : Below w.heap.size w (w3.alloc (.cells #[.int .i64 yb, .int .u64 yv, .string yd] TIm)) := HB0.out.trans (HBE.out.mono HB0.out.size)
  have hE : Below w.heap.size w ((((w3.alloc (.cells #[.int .i64 yb, .int .u64 yv, .string yd] TIm)).setCell ⟨r0, 0, none⟩ (.int .i64 0)).setCell ⟨r0, 1, none⟩ (.int .u64 0)).setCell ⟨r0, 2, none⟩ (.string ⟨#[]⟩)) := ((hA.setCell (p := ⟨r0, 0, none⟩) hr0 (.int .i64 0)).setCell (p := ⟨r0, 1, none⟩) hr0 (.int .u64 0)).setCell (p := ⟨r0, 2, none⟩) hr0 (.string ⟨#[]⟩)
  have d0 : ((((w3.alloc (.cells #[.int .i64 yb, .int .u64 yv, .string yd] TIm)).setCell ⟨r0, 0, none⟩ (.int .i64 0)).setCell ⟨r0, 1, none⟩ (.int .u64 0)).setCell ⟨r0, 2, none⟩ (.string ⟨#[]⟩)).cell? ⟨r0, 0, none⟩ = some (.int .i64 0) := b4.cell 0
  have d1 : ((((w3.alloc (.cells #[.int .i64 yb, .int .u64 yv, .string yd] TIm)).setCell ⟨r0, 0, none⟩ (.int .i64 0)).setCell ⟨r0, 1, none⟩ (.int .u64 0)).setCell ⟨r0, 2, none⟩ (.string ⟨#[]⟩)).cell? ⟨r0, 1, none⟩ = some (.int .u64 0) := b4.cell 1
  have d2 : ((((w3.alloc (.cells #[.int .i64 yb, .int .u64 yv, .string yd] TIm)).setCell ⟨r0, 0, none⟩ (.int .i64 0)).setCell ⟨r0, 1, none⟩ (.int .u64 0)).setCell ⟨r0, 2, none⟩ (.string ⟨#[]⟩)).cell? ⟨r0, 2, none⟩ = some (.string ⟨#[]⟩) := b4.cell 2
  exact bodyPost_ret (v := .tuple #[.agg #[.int .i64 0, .int .u64 0, .string ⟨#[]⟩], .int .i64 4]) (by simp [results, Tryz.results28, go_sem, d0, d1, d2]) rfl ⟨rfl, hE⟩
set_option maxHeartbeats 8000000 in
theorem get_num1 (n : Int) (b : ByteArray) (hb : b.size = 128) (hz : b ≠ zerosT 128) (hf : fitsR (sect b 0) = true) (hf2 : fitsR (sect b 1) = true) (hx : rdB (rdF b 0) ≠ n) (w : World) : Calls Tryz.prog 28 #[.int .i64 n, .string b] w fun x w' => x = .returned (.tuple #[iagg im0, .int .i64 4]) ∧ Below w.heap.size w w' := by
  have hs2 : ((b.size : Int) == 128) = true := by rw [hb]; rfl
  have kz : ∀ W, Calls Tryz.prog 31 #[.int .i64 128] W fun e w' => e = .returned (.string (zerosT 128)) ∧ Below W.heap.size W w' := fun W => zero_any 128 (by omega) W
  have he := list_ne hz
  generalize zerosT 128 = ZZ at kz he
  have kr : ∀ W, Calls Tryz.prog 59 #[.string b, .int .i64 0] W fun x w' => x = .returned (.tuple #[iagg ⟨rdB (rdF b 0), rdV (rdF b 0), rdD (rdF b 0)⟩, .int .i64 0]) ∧ Below W.heap.size W w' := fun W => read_good b hb 0 (by omega) hf W
  have kr2 : ∀ W, Calls Tryz.prog 59 #[.string b, .int .i64 1] W fun x w' => x = .returned (.tuple #[iagg ⟨rdB (rdF b 1), rdV (rdF b 1), rdD (rdF b 1)⟩, .int .i64 0]) ∧ Below W.heap.size W w' := fun W => read_good b hb 1 (by omega) hf2 W
  have hds : (rdD (rdF b 0)).size = 48 ∧ (rdD (rdF b 1)).size = 48 := by
    have h0 := rdF_size b hb (k := 0) (by omega)
    have h1 := rdF_size b hb (k := 1) (by omega)
    unfold rdD
    simp only [ByteArray.size_extract]
    omega
  have hcat : ¬ 9223372036854775807 < (rdD (rdF b 0)).size + (rdD (rdF b 1)).size := by omega
  obtain ⟨xb, hxb⟩ : ∃ x, rdB (rdF b 0) = x := ⟨_, rfl⟩
  rw [hxb] at kr hx
  obtain ⟨yb, hyb⟩ : ∃ x, rdB (rdF b 1) = x := ⟨_, rfl⟩
  rw [hyb] at kr2 
  obtain ⟨xv, hxv⟩ : ∃ x, rdV (rdF b 0) = x := ⟨_, rfl⟩
  obtain ⟨yv, hyv⟩ : ∃ x, rdV (rdF b 1) = x := ⟨_, rfl⟩
  rw [hxv] at kr 
  rw [hyv] at kr2 
  obtain ⟨xd, hxd⟩ : ∃ x, rdD (rdF b 0) = x := ⟨_, rfl⟩
  obtain ⟨yd, hyd⟩ : ∃ x, rdD (rdF b 1) = x := ⟨_, rfl⟩
  rw [hxd] at kr hcat
  rw [hyd] at kr2 hcat
  have m1 : (xb == n) = false := by simpa using hx
  have m1b : ¬ xb = n := hx
  unfold iagg at *
  clear hb hz hf hf2 hxv hxd hyd hds hx hxb hyb hyv
  have hbn := Blk.new w TIm #[.int .i64 0, .int .u64 0, .string ⟨#[]⟩]
  have hb0 := belowNew (belowSame w) (.cells #[.int .i64 0, .int .u64 0, .string ⟨#[]⟩] TIm)
  obtain ⟨W0, hW0⟩ : ∃ W0, w.alloc (.cells #[.int .i64 0, .int .u64 0, .string ⟨#[]⟩] TIm) = W0 := ⟨_, rfl⟩
  rw [hW0] at hbn hb0
  obtain ⟨r0, hr0⟩ : ∃ r, w.heap.size = r := ⟨_, rfl⟩
  rw [hr0] at hbn
  have HW0 := Lib.hid (show w.alloc (.cells #[.int .i64 0, .int .u64 0, .string ⟨#[]⟩] TIm) = W0 from hW0)
  have HR0 := Lib.hid hr0
  have HBN := Lib.hid hbn
  have HB0 := Lib.hid hb0
  clear hbn hb0 hW0 hr0
  go_enter Tryz.func28, Tryz.ntmps28
  go_upto_region 1 with fail
  rw [HW0.out, HR0.out]
  go_wp2_with (first
    | (go_at_call 31; refine (kz _).mono ?_; rintro x w1 ⟨rfl, hb1⟩; have BW1 := Lib.hid hb1; clear hb1)
    | (go_at_call 59; ((with_reducible refine (kr _).mono ?_); rintro x w2 ⟨rfl, hb2⟩); have hb3 := belowNew (belowThen BW1.out hb2) (.cells #[.int .i64 xb, .int .u64 xv, .string xd] TIm); have BX := Lib.hid (Blk.new w2 TIm #[.int .i64 xb, .int .u64 xv, .string xd]); have BW2 := Lib.hid hb3; clear hb2 hb3 kr)
    | (go_at_call 59; ((with_reducible refine (kr2 _).mono ?_); rintro x w3 ⟨rfl, hb3⟩); have hb4 := belowNew (belowThen BW2.out hb3) (.cells #[.int .i64 yb, .int .u64 yv, .string yd] TIm); have bx := BX.out.below (belowNew hb3 (.cells #[.int .i64 yb, .int .u64 yv, .string yd] TIm)) BX.out.lt; have x0 : (w3.alloc (.cells #[.int .i64 yb, .int .u64 yv, .string yd] TIm)).cell? ⟨w2.heap.size, 0, none⟩ = some (.int .i64 xb) := bx.cell 0; have x1 : (w3.alloc (.cells #[.int .i64 yb, .int .u64 yv, .string yd] TIm)).cell? ⟨w2.heap.size, 1, none⟩ = some (.int .u64 xv) := bx.cell 1; have x2 : (w3.alloc (.cells #[.int .i64 yb, .int .u64 yv, .string yd] TIm)).cell? ⟨w2.heap.size, 2, none⟩ = some (.string xd) := bx.cell 2; have bz := Blk.new w3 TIm #[.int .i64 yb, .int .u64 yv, .string yd]; have u0 : (w3.alloc (.cells #[.int .i64 yb, .int .u64 yv, .string yd] TIm)).cell? ⟨w3.heap.size, 0, none⟩ = some (.int .i64 yb) := bz.cell 0; have u1 : (w3.alloc (.cells #[.int .i64 yb, .int .u64 yv, .string yd] TIm)).cell? ⟨w3.heap.size, 1, none⟩ = some (.int .u64 yv) := bz.cell 1; have u2 : (w3.alloc (.cells #[.int .i64 yb, .int .u64 yv, .string yd] TIm)).cell? ⟨w3.heap.size, 2, none⟩ = some (.string yd) := bz.cell 2; have br := HBN.out.below hb4 HBN.out.lt; have y0 : (w3.alloc (.cells #[.int .i64 yb, .int .u64 yv, .string yd] TIm)).cell? ⟨r0, 0, none⟩ = some (.int .i64 0) := br.cell 0; have f0 := br.frozen 0; have y1 : (w3.alloc (.cells #[.int .i64 yb, .int .u64 yv, .string yd] TIm)).cell? ⟨r0, 1, none⟩ = some (.int .u64 0) := br.cell 1; have f1 := br.frozen 1; have y2 : (w3.alloc (.cells #[.int .i64 yb, .int .u64 yv, .string yd] TIm)).cell? ⟨r0, 2, none⟩ = some (.string ⟨#[]⟩) := br.cell 2; have f2 := br.frozen 2; have HBR := Lib.hid br; have HBE := Lib.hid hb4; clear br; clear hb3 hb4 bx bz kr2))
  have b4 := ((HBR.out.set_ 0 (.int .i64 0)).set_ 1 (.int .u64 0)).set_ 2 (.string ⟨#[]⟩)
  have hr0 : w.heap.size ≤ r0 := by rw [HR0.out]; exact Nat.le_refl _
  have hA : Below w.heap.size w (w3.alloc (.cells #[.int .i64 yb, .int .u64 yv, .string yd] TIm)) := HB0.out.trans (HBE.out.mono HB0.out.size)
  have hE : Below w.heap.size w ((((w3.alloc (.cells #[.int .i64 yb, .int .u64 yv, .string yd] TIm)).setCell ⟨r0, 0, none⟩ (.int .i64 0)).setCell ⟨r0, 1, none⟩ (.int .u64 0)).setCell ⟨r0, 2, none⟩ (.string ⟨#[]⟩)) := ((hA.setCell (p := ⟨r0, 0, none⟩) hr0 (.int .i64 0)).setCell (p := ⟨r0, 1, none⟩) hr0 (.int .u64 0)).setCell (p := ⟨r0, 2, none⟩) hr0 (.string ⟨#[]⟩)
  have d0 : ((((w3.alloc (.cells #[.int .i64 yb, .int .u64 yv, .string yd] TIm)).setCell ⟨r0, 0, none⟩ (.int .i64 0)).setCell ⟨r0, 1, none⟩ (.int .u64 0)).setCell ⟨r0, 2, none⟩ (.string ⟨#[]⟩)).cell? ⟨r0, 0, none⟩ = some (.int .i64 0) := b4.cell 0
  have d1 : ((((w3.alloc (.cells #[.int .i64 yb, .int .u64 yv, .string yd] TIm)).setCell ⟨r0, 0, none⟩ (.int .i64 0)).setCell ⟨r0, 1, none⟩ (.int .u64 0)).setCell ⟨r0, 2, none⟩ (.string ⟨#[]⟩)).cell? ⟨r0, 1, none⟩ = some (.int .u64 0) := b4.cell 1
  have d2 : ((((w3.alloc (.cells #[.int .i64 yb, .int .u64 yv, .string yd] TIm)).setCell ⟨r0, 0, none⟩ (.int .i64 0)).setCell ⟨r0, 1, none⟩ (.int .u64 0)).setCell ⟨r0, 2, none⟩ (.string ⟨#[]⟩)).cell? ⟨r0, 2, none⟩ = some (.string ⟨#[]⟩) := b4.cell 2
  exact bodyPost_ret (v := .tuple #[.agg #[.int .i64 0, .int .u64 0, .string ⟨#[]⟩], .int .i64 4]) (by simp [results, Tryz.results28, go_sem, d0, d1, d2]) rfl ⟨rfl, hE⟩
theorem get_numb (n : Int) (b : ByteArray) (hb : b.size = 128) (hz : b ≠ zerosT 128) (hf : fitsR (sect b 0) = true) (hf2 : fitsR (sect b 1) = true) (hc : ¬ (rdB (rdF b 0) = n ∧ rdB (rdF b 1) = n ∧ n < 4096)) (w : World) : Calls Tryz.prog 28 #[.int .i64 n, .string b] w fun x w' => x = .returned (.tuple #[iagg im0, .int .i64 4]) ∧ Below w.heap.size w w' := by
  by_cases h1 : rdB (rdF b 0) = n
  · by_cases h2 : rdB (rdF b 1) = n
    · exact get_num3 n b hb hz hf hf2 h1 h2 (by omega) w
    · exact get_num2 n b hb hz hf hf2 h1 h2 w
  · exact get_num1 n b hb hz hf hf2 h1 w
theorem get_any (n : Int) (b : ByteArray) (w : World) : Calls Tryz.prog 28 #[.int .i64 n, .string b] w fun x w' => x = .returned (.tuple #[iagg (getR n b).1, .int .i64 (getR n b).2]) ∧ Below w.heap.size w w' := by
  unfold getR
  by_cases h1 : b.size = 128
  · rw [if_pos h1]
    by_cases h2 : b = zerosT 128
    · rw [if_pos h2, h2]; exact get_zero n w
    · rw [if_neg h2]
      by_cases h3 : fitsR (sect b 0) = true
      · rw [if_pos h3]
        by_cases h4 : fitsR (sect b 1) = true
        · rw [if_pos h4]
          by_cases h5 : rdB (rdF b 0) = n ∧ rdB (rdF b 1) = n ∧ n < 4096
          · rw [if_pos h5]
            by_cases h6 : rdV (rdF b 0) = rdV (rdF b 1)
            · rw [if_pos h6]; exact get_good n b h1 h2 h3 h4 h5.1 h5.2.1 h5.2.2 h6 w
            · rw [if_neg h6]; exact get_vers n b h1 h2 h3 h4 h5.1 h5.2.1 h5.2.2 h6 w
          · rw [if_neg h5]; exact get_numb n b h1 h2 h3 h4 h5 w
        · rw [if_neg h4]; exact get_none1 n b h1 h2 h3 (by simpa using h4) w
      · rw [if_neg h3]; exact get_none0 n b h1 h2 (by simpa using h3) w
  · rw [if_neg h1]; exact get_size n b h1 w
end Go.Proofs.YtcbhdggjcelmaaaGreat.BK

/- block: what Get makes of what Put lays, with and without a changed byte. Plain. No condition. -/
namespace Go.Proofs.YtcbhdggjcelmaaaGreat.BK
set_option maxRecDepth 100000
open Go.RowKit Go.Proofs.YtcbhdggjcelmaaaGreat.WI Go.Proofs.YtcbhdggjcelmaaaGreat.SM
set_option linter.unusedVariables false
set_option linter.unusedSimpArgs false

theorem ba_ext {a b : ByteArray} (h : a.data.toList = b.data.toList) : a = b := by
  obtain ⟨⟨a⟩⟩ := a
  obtain ⟨⟨b⟩⟩ := b
  simp at h
  rw [h]
theorem ext_set_far (P : ByteArray) (q : Nat) (d : UInt8) (i j : Nat) (h : j ≤ q ∨ q < i) : (setT P q d).extract i j = P.extract i j := by
  refine ba_ext ?_
  rw [SM.ext_data, SM.ext_data, setT_data]
  rcases h with h | h
  · rcases Nat.lt_or_ge i j with hij | hij
    · have e : ∀ l : List UInt8, (l.drop i).take (j - i) = (l.take j).drop i := fun l => by rw [List.drop_take]
      rw [e, e, List.take_set_of_le (by omega)]
    · rw [show j - i = 0 by omega, List.take_zero, List.take_zero]
  · rw [List.drop_set, if_pos h]
theorem ext_set_in (P : ByteArray) (q : Nat) (d : UInt8) (i j : Nat) (h1 : i ≤ q) : (setT P q d).extract i j = setT (P.extract i j) (q - i) d := by
  refine ba_ext ?_
  rw [SM.ext_data, setT_data, setT_data, SM.ext_data, List.drop_set, if_neg (by omega), List.take_set]
theorem zsec_misfit : fitsR (sect (zerosT 128) 0) = false := by decide +kernel
section
variable {x : Im}
theorem sect0 (h : x.d.size = 96) : sect (putT x) 0 = secT x 0 := by
  have h0 := secT_size h (k := 0) (by omega)
  unfold sect putT
  refine ba_ext ?_
  rw [SM.ext_data, SM.app_data, List.drop_zero, List.take_left' (by rw [Array.length_toList]; exact h0)]
theorem sect1 (h : x.d.size = 96) : sect (putT x) 1 = secT x 1 := by
  have h0 := secT_size h (k := 0) (by omega)
  have h1 := secT_size h (k := 1) (by omega)
  unfold sect putT
  refine ba_ext ?_
  rw [SM.ext_data, SM.app_data, List.drop_left' (by rw [Array.length_toList]; exact h0), List.take_of_length_le]
  rw [Array.length_toList]
  show (secT x 1).size ≤ _
  omega
theorem sect_put (h : x.d.size = 96) {k : Nat} (hk : k < 2) : sect (putT x) k = secT x k := by
  rcases (by omega : k = 0 ∨ k = 1) with rfl | rfl
  · exact sect0 h
  · exact sect1 h
theorem secT_fits (h : x.d.size = 96) {k : Nat} (hk : k < 2) : fitsR (secT x k) = true := (read_stamp (secB x k) 64 (by omega) (by rw [secB_size h hk]; omega)).2.2.1
theorem secT_front (h : x.d.size = 96) {k : Nat} (hk : k < 2) : (secT x k).extract 0 60 = secB x k := by
  have h0 := (read_stamp (secB x k) 64 (by omega) (by rw [secB_size h hk]; omega)).2.2.2
  rw [show (64 : Nat) - 4 = 60 from rfl] at h0
  rw [show secT x k = stampT (secB x k) 64 from rfl, h0]
  unfold padT
  rw [secB_size h hk]
  refine ba_ext ?_
  rw [SM.app_data]
  rw [show (zerosT (64 - 4 - 60)).data.toList = [] from by decide, List.append_nil]
theorem half_data (h : x.d.size = 96) {k : Nat} (hk : k < 2) : (secB x k).data.toList = (halfT x k).data.toList ++ (SU.U8 (lowB x.b 4) ++ (SU.U8 (lowB x.v 8) ++ [])) := by
  unfold secB
  rw [SM.app_data]
  congr 1
theorem front_rest (h : x.d.size = 96) {k : Nat} (hk : k < 2) : ((secB x k).extract 48 (secB x k).size).data.toList = SU.U8 (lowB x.b 4) ++ (SU.U8 (lowB x.v 8) ++ []) := by
  have h0 := halfT_size h hk
  have hz := secB_size h hk
  rw [SM.ext_data, half_data h hk, List.drop_left' (by rw [Array.length_toList]; exact h0), List.take_of_length_le]
  rw [List.length_append, List.length_append]
  unfold SU.U8
  rw [List.length_map, List.length_map, lowB_len, lowB_len, hz]
  exact Nat.le_refl _
theorem rd_put (g : Good x) {k : Nat} (hk : k < 2) : rdB (secB x k) = x.b ∧ rdV (secB x k) = x.v ∧ rdD (secB x k) = halfT x k := by
  have hb := g.b
  have hv := g.v
  obtain ⟨a1, a2, a3⟩ := SU.rd_step (front_rest g.d hk) (by omega) (by rw [show (256 : Nat) ^ 4 = 4294967296 from rfl]; omega)
  obtain ⟨b1, b2, b3⟩ := SU.rd_step a2 (by omega) (by rw [show (256 : Nat) ^ 8 = 18446744073709551616 from rfl]; omega)
  refine ⟨a1, b1, ?_⟩
  unfold rdD
  refine ba_ext ?_
  have h0 := halfT_size g.d hk
  rw [SM.ext_data, half_data g.d hk, List.drop_zero, List.take_left' (by rw [Array.length_toList]; exact h0)]
theorem halves (h : x.d.size = 96) : halfT x 0 ++ halfT x 1 = x.d := by
  unfold halfT
  refine ba_ext ?_
  rw [SM.app_data, SM.ext_data, SM.ext_data]
  rw [show 0 * 48 = 0 from rfl, show (0 + 1) * 48 = 48 from rfl, show (1 + 1) * 48 = 96 from rfl, List.drop_zero]
  rw [show 48 - 0 = 48 from rfl]
  have hl : x.d.data.toList.length = 96 := (Array.length_toList).trans h
  rw [show (x.d.data.toList.drop 48).take 48 = x.d.data.toList.drop 48 from List.take_of_length_le (by rw [List.length_drop]; omega), List.take_append_drop]
theorem rdF_put (h : x.d.size = 96) {k : Nat} (hk : k < 2) : rdF (putT x) k = secB x k := by unfold rdF; rw [sect_put h hk, secT_front h hk]
theorem put_nz (h : x.d.size = 96) : putT x ≠ zerosT 128 := fun e => by
  have h1 := secT_fits h (k := 0) (by omega)
  rw [← sect0 h, e, zsec_misfit] at h1
  cases h1
/-- Of its own number it is read as it was put. -/
theorem get_put (g : Good x) : getR x.b (putT x) = (x, 0) := by
  unfold getR
  have h0 := rd_put g (k := 0) (by omega)
  have h1 := rd_put g (k := 1) (by omega)
  rw [if_pos (putT_size g.d), if_neg (put_nz g.d), sect0 g.d, sect1 g.d, if_pos (secT_fits g.d (by omega)), if_pos (secT_fits g.d (by omega)), rdF_put g.d (by omega), rdF_put g.d (by omega), h0.1, h1.1, h0.2.1, h1.2.1, h0.2.2, h1.2.2, halves g.d,
    if_pos ⟨rfl, rfl, g.b.2⟩, if_pos rfl]
/-- Of another number it is none. -/
theorem get_other (g : Good x) (n : Int) (hn : n ≠ x.b) : getR n (putT x) = (im0, 4) := by
  unfold getR
  have h0 := rd_put g (k := 0) (by omega)
  have h1 := rd_put g (k := 1) (by omega)
  rw [if_pos (putT_size g.d), if_neg (put_nz g.d), sect0 g.d, sect1 g.d, if_pos (secT_fits g.d (by omega)), if_pos (secT_fits g.d (by omega)), rdF_put g.d (by omega), rdF_put g.d (by omega), h0.1, h1.1,
    if_neg (fun h => hn h.1.symm)]
/-- With one byte changed it is none. -/
theorem get_changed (g : Good x) (q : Nat) (hq : q < 128) (d : UInt8) (hd : (putT x).data.toList[q]? ≠ some d) (n : Int) : getR n (setT (putT x) q d) = (im0, 6) := by
  have hsz : (setT (putT x) q d).size = 128 := by rw [setT_size, putT_size g.d]
  have key : ∀ k, k < 2 → 64 * k ≤ q → q < 64 * (k + 1) → fitsR (sect (setT (putT x) q d) k) = false := fun k hk h1 h2 => by
    have hat : (putT x).data.toList[q]? = (secT x k).data.toList[q - k * 64]? := by
      rw [← sect_put g.d hk]
      unfold sect
      rw [SM.ext_data, List.getElem?_take, if_pos (by omega), List.getElem?_drop, show k * 64 + (q - k * 64) = q by omega]
    rw [hat] at hd
    unfold sect
    rw [ext_set_in _ _ _ _ _ (by omega), show (putT x).extract (k * 64) ((k + 1) * 64) = secT x k from sect_put g.d hk]
    exact fitsR_set _ 64 (by omega) (by rw [secB_size g.d hk]; omega) (q - k * 64) (by omega) d hd
  unfold getR
  rw [if_pos hsz]
  rcases Nat.lt_or_ge q 64 with h | h
  · have h0 := key 0 (by omega) (by omega) (by omega)
    split
    · rename_i hz
      exfalso
      have h1 : sect (setT (putT x) q d) 1 = secT x 1 := by
        unfold sect
        rw [ext_set_far _ _ _ _ _ (Or.inr (by omega))]
        exact sect1 g.d
      have h2 := secT_fits g.d (k := 1) (by omega)
      rw [← h1, hz, show fitsR (sect (zerosT 128) 1) = false from by decide +kernel] at h2
      cases h2
    · rw [h0]; rfl
  · have h1 : sect (setT (putT x) q d) 0 = secT x 0 := by
      unfold sect
      rw [ext_set_far _ _ _ _ _ (Or.inl (by omega))]
      exact sect0 g.d
    have h2 := secT_fits g.d (k := 0) (by omega)
    rw [if_neg (fun hz => by rw [← h1, hz, zsec_misfit] at h2; cases h2), h1, if_pos h2, key 1 (by omega) (by omega) (by omega)]
    rfl
/-- Nobody wrote it: bytes 0. -/
theorem get_zeros (n : Int) : getR n (zerosT 128) = (⟨n, 0, zerosT 96⟩, 0) := by
  unfold getR
  rw [if_pos (zerosT_size _), if_pos rfl]
end
end Go.Proofs.YtcbhdggjcelmaaaGreat.BK

/- block: Load, Store, of the laws' shape. No condition. -/
namespace Go.Proofs.YtcbhdggjcelmaaaGreat.BK
set_option maxRecDepth 100000
open Go.RowKit Go.Proofs.YtcbhdggjcelmaaaGreat.MI Go.Proofs.YtcbhdggjcelmaaaGreat.WI Go.Proofs.YtcbhdggjcelmaaaGreat.SM Go.Proofs.YtcbhdggjcelmaaaGreat.DK Go.Proofs.YtcbhdggjcelmaaaGreat.SU
set_option linter.unusedVariables false
set_option linter.unusedSimpArgs false

theorem blockI0 (n : Int) : blockI sh0 n = 17 + 2 * n := by show 1 + 2 * 8 + 2 * n = _; omega
section
variable {w0 W : World} {g N : Nat} {D : Dk}
set_option maxHeartbeats 4000000 in
theorem bload_any (h : Own w0 g N D W) (n : Int) (hn : 0 ≤ n ∧ n < 10) (hr : readE D (17 + 2 * n) 2 = 0) :
    Calls Tryz.prog 8 #[.pointer (some ⟨g, 0, none⟩), sagg sh0, .int .i64 n] W fun x w' => x = .returned (.tuple #[iagg (getR n (readT D (17 + 2 * n) 2)).1, .int .i64 (getR n (readT D (17 + 2 * n) 2)).2]) ∧ Own w0 g N D w' ∧ Below W.heap.size W w' := by
  have kb := fun W => block_ok sh0 good0 n hn W
  rw [blockI0] at kb
  have kr := fun W (h : Own w0 g N D W) => own_read2 h (17 + 2 * n) 2
  rw [hr] at kr
  have kg := fun W => get_any n (readT D (17 + 2 * n) 2) W
  obtain ⟨T, hT⟩ : ∃ T, readT D (17 + 2 * n) 2 = T := ⟨_, rfl⟩
  rw [hT] at kr kg ⊢
  obtain ⟨X, hX⟩ : ∃ X, getR n T = X := ⟨_, rfl⟩
  rw [hX] at kg ⊢
  obtain ⟨⟨xb, xv, xd⟩, xe⟩ := X
  unfold iagg sagg sh0 at *
  dsimp only at kg ⊢
  obtain ⟨at_, hat⟩ : ∃ a, 17 + 2 * n = a := ⟨_, rfl⟩
  rw [hat] at kb kr
  have HH := Lib.hid h
  clear hT hX hat h hr
  have hl0 := Blk.new W TLa #[.int .i64 2, .int .i64 10, .int .i64 8, .int .i64 4, .int .i64 32]
  have hr1 := Blk.new (W.alloc (.cells #[.int .i64 2, .int .i64 10, .int .i64 8, .int .i64 4, .int .i64 32] TLa)) TIm #[.int .i64 0, .int .u64 0, .string ⟨#[]⟩]
  have hsz : (W.alloc (.cells #[.int .i64 2, .int .i64 10, .int .i64 8, .int .i64 4, .int .i64 32] TLa)).heap.size = W.heap.size + 1 := by simp
  have hb1 := belowNew (belowNew (belowSame W) (.cells #[.int .i64 2, .int .i64 10, .int .i64 8, .int .i64 4, .int .i64 32] TLa)) (.cells #[.int .i64 0, .int .u64 0, .string ⟨#[]⟩] TIm)
  have hl1 := hl0.below (belowNew (belowSame (W.alloc (.cells #[.int .i64 2, .int .i64 10, .int .i64 8, .int .i64 4, .int .i64 32] TLa))) (.cells #[.int .i64 0, .int .u64 0, .string ⟨#[]⟩] TIm)) hl0.lt
  rw [hsz] at hr1
  obtain ⟨W1, hW1⟩ : ∃ W1, (W.alloc (.cells #[.int .i64 2, .int .i64 10, .int .i64 8, .int .i64 4, .int .i64 32] TLa)).alloc (.cells #[.int .i64 0, .int .u64 0, .string ⟨#[]⟩] TIm) = W1 := ⟨_, rfl⟩
  rw [hW1] at hr1 hb1 hl1
  obtain ⟨r0, hr0⟩ : ∃ r, W.heap.size + 1 = r := ⟨_, rfl⟩
  obtain ⟨x0, hx0⟩ : ∃ x, W.heap.size = x := ⟨_, rfl⟩
  rw [hr0] at hr1
  rw [hx0] at hl1
  have c0 : W1.cell? ⟨x0, 0, none⟩ = some (.int .i64 2) := hl1.cell 0
  have c1 : W1.cell? ⟨x0, 1, none⟩ = some (.int .i64 10) := hl1.cell 1
  have c2 : W1.cell? ⟨x0, 2, none⟩ = some (.int .i64 8) := hl1.cell 2
  have c3 : W1.cell? ⟨x0, 3, none⟩ = some (.int .i64 4) := hl1.cell 3
  have c4 : W1.cell? ⟨x0, 4, none⟩ = some (.int .i64 32) := hl1.cell 4
  have HW1 := Lib.hid hW1
  have HR0 := Lib.hid hr0
  have HX0 := Lib.hid hx0
  have HBN := Lib.hid hr1
  have HB1 := Lib.hid hb1
  have HH1 := Lib.hid (HH.out.then_ hb1)
  clear hl0 hr1 hsz hb1 hl1 hW1 hr0 hx0
  go_enter Tryz.func8, Tryz.ntmps8
  go_upto_region 1 with fail
  rw [HW1.out]
  try rw [HR0.out]
  try rw [HX0.out]
  go_wp2_with (first
    | (go_at_call 22; refine (kb _).mono ?_; rintro x w2 ⟨rfl, hb2⟩; have H2 := Lib.hid (HH1.out.then_ hb2); have B2 := Lib.hid (belowThen HB1.out hb2); have R2 := Lib.hid (HBN.out.below hb2 HBN.out.lt); clear hb2)
    | (go_at_call 27; refine (kr _ H2.out).mono ?_; rintro x w3 ⟨rfl, ho3, hb3⟩; have H3 := Lib.hid ho3; have B3 := Lib.hid (belowThen B2.out hb3); have R3 := Lib.hid (R2.out.below hb3 R2.out.lt); clear hb3 ho3)
    | (go_at_call 28; refine (kg _).mono ?_; rintro x w4 ⟨rfl, hb4⟩; have HO := Lib.hid HH.out; have HBE := Lib.hid (belowThen B3.out hb4); have br := R3.out.below hb4 R3.out.lt; have y0 : w4.cell? ⟨r0, 0, none⟩ = some (.int .i64 0) := br.cell 0; have f0 := br.frozen 0; have y1 : w4.cell? ⟨r0, 1, none⟩ = some (.int .u64 0) := br.cell 1; have f1 := br.frozen 1; have y2 : w4.cell? ⟨r0, 2, none⟩ = some (.string ⟨#[]⟩) := br.cell 2; have f2 := br.frozen 2; have HBR := Lib.hid br; clear hb4 br))
  have b4 := ((HBR.out.set_ 0 (.int .i64 xb)).set_ 1 (.int .u64 xv)).set_ 2 (.string xd)
  have hr0 : W.heap.size ≤ r0 := by have := HR0.out; omega
  have hA : Below W.heap.size W w4 := HBE.out
  have hE : Below W.heap.size W (((w4.setCell ⟨r0, 0, none⟩ (.int .i64 xb)).setCell ⟨r0, 1, none⟩ (.int .u64 xv)).setCell ⟨r0, 2, none⟩ (.string xd)) := ((hA.setCell (p := ⟨r0, 0, none⟩) hr0 (.int .i64 xb)).setCell (p := ⟨r0, 1, none⟩) hr0 (.int .u64 xv)).setCell (p := ⟨r0, 2, none⟩) hr0 (.string xd)
  have d0 : (((w4.setCell ⟨r0, 0, none⟩ (.int .i64 xb)).setCell ⟨r0, 1, none⟩ (.int .u64 xv)).setCell ⟨r0, 2, none⟩ (.string xd)).cell? ⟨r0, 0, none⟩ = some (.int .i64 xb) := b4.cell 0
  have d1 : (((w4.setCell ⟨r0, 0, none⟩ (.int .i64 xb)).setCell ⟨r0, 1, none⟩ (.int .u64 xv)).setCell ⟨r0, 2, none⟩ (.string xd)).cell? ⟨r0, 1, none⟩ = some (.int .u64 xv) := b4.cell 1
  have d2 : (((w4.setCell ⟨r0, 0, none⟩ (.int .i64 xb)).setCell ⟨r0, 1, none⟩ (.int .u64 xv)).setCell ⟨r0, 2, none⟩ (.string xd)).cell? ⟨r0, 2, none⟩ = some (.string xd) := b4.cell 2
  exact bodyPost_ret (v := .tuple #[.agg #[.int .i64 xb, .int .u64 xv, .string xd], .int .i64 xe]) (by simp [results, Tryz.results8, go_sem, d0, d1, d2]) rfl ⟨rfl, HO.out.then_ hE, hE⟩
set_option maxHeartbeats 4000000 in
theorem bstore_d {B : Nat} {p : Pl} (h : DiskAt W B g p N D) (x : Im) (hg : Good x) (h10 : x.b < 10) (n e : Int) (hN : N ≤ 10000000) :
    Calls Tryz.prog 6 #[.pointer (some ⟨g, 0, none⟩), sagg sh0, .int .i64 n, .int .u64 e, iagg x] W fun z w' => z = .returned (.int .i64 (writeE D n e (17 + 2 * x.b) (putT x))) ∧ DiskOut W B g p (N + 16) (writeK D n e (17 + 2 * x.b) (putT x)) w' := by
  have kb := fun W => block_ok sh0 good0 x.b ⟨hg.b.1, h10⟩ W
  rw [blockI0] at kb
  have kp := fun W => put_ok x hg W
  have kw := fun W (h : DiskAt W B g p N D) => write_any h n e (17 + 2 * x.b) (putT x) (by rw [putT_size hg.d]; omega) hN
  obtain ⟨xb, xv, xd⟩ := x
  generalize putT ⟨xb, xv, xd⟩ = T at *
  unfold iagg sagg sh0 at *
  dsimp only at kb kp kw ⊢
  obtain ⟨at_, hat⟩ : ∃ a, 17 + 2 * xb = a := ⟨_, rfl⟩
  rw [hat] at kb kw ⊢
  generalize writeE D n e at_ T = we at *
  generalize writeK D n e at_ T = wk at *
  clear hat hg h10
  have hl0 := Blk.new W TLa #[.int .i64 2, .int .i64 10, .int .i64 8, .int .i64 4, .int .i64 32]
  have hi1 := Blk.new (W.alloc (.cells #[.int .i64 2, .int .i64 10, .int .i64 8, .int .i64 4, .int .i64 32] TLa)) TIm #[.int .i64 xb, .int .u64 xv, .string xd]
  have hsz : (W.alloc (.cells #[.int .i64 2, .int .i64 10, .int .i64 8, .int .i64 4, .int .i64 32] TLa)).heap.size = W.heap.size + 1 := by simp
  have hb1 := belowNew (belowNew (belowSame W) (.cells #[.int .i64 2, .int .i64 10, .int .i64 8, .int .i64 4, .int .i64 32] TLa)) (.cells #[.int .i64 xb, .int .u64 xv, .string xd] TIm)
  have hl1 := hl0.below (belowNew (belowSame (W.alloc (.cells #[.int .i64 2, .int .i64 10, .int .i64 8, .int .i64 4, .int .i64 32] TLa))) (.cells #[.int .i64 xb, .int .u64 xv, .string xd] TIm)) hl0.lt
  rw [hsz] at hi1
  obtain ⟨W1, hW1⟩ : ∃ W1, (W.alloc (.cells #[.int .i64 2, .int .i64 10, .int .i64 8, .int .i64 4, .int .i64 32] TLa)).alloc (.cells #[.int .i64 xb, .int .u64 xv, .string xd] TIm) = W1 := ⟨_, rfl⟩
  rw [hW1] at hi1 hb1 hl1
  obtain ⟨r0, hr0⟩ : ∃ r, W.heap.size + 1 = r := ⟨_, rfl⟩
  obtain ⟨x0, hx0⟩ : ∃ x, W.heap.size = x := ⟨_, rfl⟩
  rw [hr0] at hi1
  rw [hx0] at hl1
  have c0 : W1.cell? ⟨x0, 0, none⟩ = some (.int .i64 2) := hl1.cell 0
  have c1 : W1.cell? ⟨x0, 1, none⟩ = some (.int .i64 10) := hl1.cell 1
  have c2 : W1.cell? ⟨x0, 2, none⟩ = some (.int .i64 8) := hl1.cell 2
  have c3 : W1.cell? ⟨x0, 3, none⟩ = some (.int .i64 4) := hl1.cell 3
  have c4 : W1.cell? ⟨x0, 4, none⟩ = some (.int .i64 32) := hl1.cell 4
  have i0 : W1.cell? ⟨r0, 0, none⟩ = some (.int .i64 xb) := hi1.cell 0
  have HW1 := Lib.hid hW1
  have HR0 := Lib.hid hr0
  have HX0 := Lib.hid hx0
  have HBN := Lib.hid hi1
  have HH1 := Lib.hid (h.old hb1)
  have BB1 := Lib.hid hb1
  clear hl0 hi1 hsz hb1 hl1 hW1 hr0 hx0 h
  go_enter Tryz.func6, Tryz.ntmps6
  go_upto_region 1 with fail
  rw [HW1.out]
  try rw [HR0.out]
  try rw [HX0.out]
  go_wp2_with (first
    | (go_at_call 22; refine (kb _).mono ?_; rintro x w2 ⟨rfl, hb2⟩; have H2 := Lib.hid (HH1.out.old hb2); have B2 := Lib.hid (belowThen BB1.out hb2); have bi := HBN.out.below hb2 HBN.out.lt; have j0 : w2.cell? ⟨r0, 0, none⟩ = some (.int .i64 xb) := bi.cell 0; have j1 : w2.cell? ⟨r0, 1, none⟩ = some (.int .u64 xv) := bi.cell 1; have j2 : w2.cell? ⟨r0, 2, none⟩ = some (.string xd) := bi.cell 2; clear hb2 bi)
    | (go_at_call 23; refine (kp _).mono ?_; rintro x w3 ⟨rfl, hb3⟩; have H3 := Lib.hid (H2.out.old hb3); have B3 := Lib.hid (belowThen B2.out hb3); clear hb3)
    | (go_at_call 24; refine (kw _ H3.out).mono ?_; rintro x w4 ⟨rfl, ho4⟩; have H4 := Lib.hid (DiskOut.from_ B3.out ho4); clear ho4))
  exact end_ret (t := 10) (v := .int .i64 we) (by kernel_rfl) rfl rfl ⟨rfl, H4.out⟩
end
/-- A disk, and blocks beside it that its calls leave. -/
def OwnL (w0 : World) (g N : Nat) (D : Dk) (bl : List (Nat × TypeId × Array Value)) (W : World) : Prop :=
  ∃ p, DiskAt W w0.heap.size g p N D ∧ Below w0.heap.size w0 W ∧ ∀ b ∈ bl, Blk W b.1 b.2.1 b.2.2 ∧ ¬ fp g p b.1
section
variable {w0 W W' : World} {g N N' : Nat} {D D' : Dk} {bl : List (Nat × TypeId × Array Value)}
theorem OwnL.own (h : OwnL w0 g N D bl W) : Own w0 g N D W := by obtain ⟨p, h1, h2, _⟩ := h; exact ⟨p, h1, h2⟩
theorem OwnL.bel (h : OwnL w0 g N D bl W) : Below w0.heap.size w0 W := h.own.bel
theorem OwnL.blk (h : OwnL w0 g N D bl W) {b : Nat × TypeId × Array Value} (hb : b ∈ bl) : Blk W b.1 b.2.1 b.2.2 := by obtain ⟨p, _, _, h3⟩ := h; exact (h3 b hb).1
theorem OwnL.b0 {x : Nat} {T : TypeId} {cs : Array Value} (h : OwnL w0 g N D ((x, T, cs) :: bl) W) : Blk W x T cs := h.blk (b := (x, T, cs)) (List.mem_cons_self ..)
theorem OwnL.b1 {x : Nat} {T : TypeId} {cs : Array Value} {y : Nat × TypeId × Array Value} (h : OwnL w0 g N D (y :: (x, T, cs) :: bl) W) : Blk W x T cs := h.blk (b := (x, T, cs)) (List.mem_cons_of_mem _ (List.mem_cons_self ..))
theorem OwnL.b2 {x : Nat} {T : TypeId} {cs : Array Value} {y z : Nat × TypeId × Array Value} (h : OwnL w0 g N D (y :: z :: (x, T, cs) :: bl) W) : Blk W x T cs := h.blk (b := (x, T, cs)) (List.mem_cons_of_mem _ (List.mem_cons_of_mem _ (List.mem_cons_self ..)))
theorem Own.toL (h : Own w0 g N D W) : OwnL w0 g N D [] W := by obtain ⟨p, h1, h2⟩ := h; exact ⟨p, h1, h2, fun _ hb => by cases hb⟩
theorem OwnL.then_ (h : OwnL w0 g N D bl W) (hb : Below W.heap.size W W') : OwnL w0 g N D bl W' := by
  obtain ⟨p, h1, h2, h3⟩ := h
  exact ⟨p, h1.old hb, belowThen h2 hb, fun b hbl => ⟨(h3 b hbl).1.below hb (h3 b hbl).1.lt, (h3 b hbl).2⟩⟩
theorem OwnL.beside (h : OwnL w0 g N D bl W) (T : TypeId) (cs : Array Value) : OwnL w0 g N D ((W.heap.size, T, cs) :: bl) (W.alloc (.cells cs T)) := by
  have h0 := h.then_ (belowNew (belowSame W) (.cells cs T))
  obtain ⟨p, h1, h2, h3⟩ := h
  refine ⟨p, h1.alloc _, belowNew h2 _, fun b hbl => ?_⟩
  rcases List.mem_cons.1 hbl with e | hbl
  · rw [e]; exact ⟨Blk.new _ _ _, fun hk => by have h5 := h1.lt _ hk; omega⟩
  · exact ⟨(h3 b hbl).1.alloc _, (h3 b hbl).2⟩
theorem OwnL.of {p : Pl} (h1 : DiskAt W w0.heap.size g p N D) (h2 : Below w0.heap.size w0 W) (h3 : ∀ b ∈ bl, Blk W b.1 b.2.1 b.2.2 ∧ ¬ fp g p b.1) (ho : DiskOut W w0.heap.size g p N' D' W') : OwnL w0 g N' D' bl W' := by
  obtain ⟨p', k1, k2, k3, _⟩ := ho
  refine ⟨p', k1, k2.after h2 h1.ge h1.base, fun b hbl => ⟨(h3 b hbl).1.keeps k2 (h3 b hbl).2, fun hk => ?_⟩⟩
  rcases k3 b.1 hk with h5 | h5
  · exact (h3 b hbl).2 h5
  · have := (h3 b hbl).1.lt; omega
/-- A cell of the first block beside it is turned. -/
theorem OwnL.turn {x : Nat} {T : TypeId} {cs : Array Value} (h : OwnL w0 g N D ((x, T, cs) :: bl) W) (h0 : D.stays = []) (hx : w0.heap.size ≤ x) (hne : ∀ b ∈ bl, b.1 ≠ x) (i : Nat) (u : Value) : OwnL w0 g N D ((x, T, cs.setIfInBounds i u) :: bl) (W.setCell ⟨x, i, none⟩ u) := by
  have hb := h.b0
  obtain ⟨p, h1, h2, h3⟩ := h
  have hx2 := (h3 _ (List.mem_cons_self ..)).2
  have hk := keep1 W x i u
  refine ⟨p, disk_keeps h1 h0 hk (fun k hk1 hk2 => ?_), h2.setCell hx _, fun b hbl => ?_⟩
  · have e : k = x := hk2
    exact hx2 (e ▸ hk1)
  · rcases List.mem_cons.1 hbl with e | hbl
    · rw [e]; exact ⟨hb.set_ i u, hx2⟩
    · exact ⟨(h3 b (List.mem_cons_of_mem _ hbl)).1.keeps hk (fun e => hne b hbl e), (h3 b (List.mem_cons_of_mem _ hbl)).2⟩
theorem bstore_l (h : OwnL w0 g N D bl W) (x : Im) (hg : Good x) (h10 : x.b < 10) (n e : Int) (hN : N ≤ 10000000) (D' : Dk) (he : writeE D n e (17 + 2 * x.b) (putT x) = 0) (hk : writeK D n e (17 + 2 * x.b) (putT x) = D') :
    Calls Tryz.prog 6 #[.pointer (some ⟨g, 0, none⟩), sagg sh0, .int .i64 n, .int .u64 e, iagg x] W fun z w' => z = .returned (.int .i64 0) ∧ OwnL w0 g (N + 16) D' bl w' := by
  obtain ⟨p, h1, h2, h3⟩ := h
  refine (bstore_d h1 x hg h10 n e hN).mono fun z w' ⟨hz, ho⟩ => ?_
  rw [he] at hz
  rw [hk] at ho
  exact ⟨hz, OwnL.of h1 h2 h3 ho⟩
theorem bload_l (h : OwnL w0 g N D bl W) (n : Int) (hn : 0 ≤ n ∧ n < 10) (hr : readE D (17 + 2 * n) 2 = 0) (X : Im) (xe : Int) (hX : getR n (readT D (17 + 2 * n) 2) = (X, xe)) :
    Calls Tryz.prog 8 #[.pointer (some ⟨g, 0, none⟩), sagg sh0, .int .i64 n] W fun x w' => x = .returned (.tuple #[iagg X, .int .i64 xe]) ∧ OwnL w0 g N D bl w' := by
  refine (bload_any h.own n hn hr).mono fun x w' ⟨hx, _, hb⟩ => ?_
  rw [hX] at hx
  exact ⟨hx, h.then_ hb⟩
theorem barrier_l (h : OwnL w0 g N D bl W) (n e : Int) (hN : N ≤ 10000000) (D' : Dk) (he : barrierE D n e = 0) (hk : barrierK D n e = D') : Calls Tryz.prog 66 #[.pointer (some ⟨g, 0, none⟩), .int .i64 n, .int .u64 e] W fun z w' => z = .returned (.int .i64 0) ∧ OwnL w0 g N D' bl w' := by
  obtain ⟨p, h1, h2, h3⟩ := h
  refine (barrier_any h1 n e (by omega)).mono fun z w' ⟨hz, ho⟩ => ?_
  rw [he] at hz
  rw [hk] at ho
  exact ⟨hz, OwnL.of h1 h2 h3 ho⟩
end
end Go.Proofs.YtcbhdggjcelmaaaGreat.BK

/- commonslaw10.alive. No condition. -/
namespace Go.Proofs.YtcbhdggjcelmaaaGreat.BK
set_option maxRecDepth 100000
open Go.RowKit Go.Proofs.YtcbhdggjcelmaaaGreat.MI Go.Proofs.YtcbhdggjcelmaaaGreat.WI Go.Proofs.YtcbhdggjcelmaaaGreat.SM Go.Proofs.YtcbhdggjcelmaaaGreat.DK Go.Proofs.YtcbhdggjcelmaaaGreat.SU
set_option linter.unusedVariables false
set_option linter.unusedSimpArgs false

section
variable {D : Dk} {b n : Int} {T : ByteArray}
theorem wr_ok (h1 : D.on = true) (h2 : D.armed = false) (h3 : D.room = 37) (h4 : D.table 1 = 9) (hb : 0 ≤ b ∧ b < 10) (hT : T.size = 128) : writeE D 1 9 (17 + 2 * b) T = 0 ∧ writeK D 1 9 (17 + 2 * b) T = manyK D 1 (17 + 2 * b) T 2 :=
  write_good (c := 2) h1 rfl h2 h4 (by decide) hT (by decide) ⟨by omega, by rw [h3]; omega⟩
theorem rd_ok (h1 : D.on = true) (h3 : D.room = 37) (hn : 0 ≤ n ∧ n < 10) : readE D (17 + 2 * n) 2 = 0 ∧ readT D (17 + 2 * n) 2 = ⟨(readS D (17 + 2 * n) 2).toArray⟩ :=
  DK.read_good (k := 2) h1 (by decide) ⟨by omega, by rw [h3]; omega⟩
theorem zeros_two : (⟨((([] : List UInt8) ++ zsec.data.toList) ++ zsec.data.toList).toArray⟩ : ByteArray) = zerosT 128 := by
  unfold zerosT zsec
  rw [repeat_rep]
  rfl
theorem rd_zero (h1 : D.on = true) (h3 : D.room = 37) (hn : 0 ≤ n ∧ n < 10) (hc : Calm D) : readT D (17 + 2 * n) 2 = zerosT 128 := by
  rw [(rd_ok h1 h3 hn).2]
  show (⟨((([] : List UInt8) ++ ((D.now (17 + 2 * n + ((0 : Nat) : Int))).getD zsec).data.toList) ++ ((D.now (17 + 2 * n + ((1 : Nat) : Int))).getD zsec).data.toList).toArray⟩ : ByteArray) = _
  rw [hc.now _ (by omega), hc.now _ (by omega)]
  exact zeros_two
theorem many_keep (D : Dk) (a : Int) (T : ByteArray) : (manyK D 1 a T 2).on = D.on ∧ (manyK D 1 a T 2).armed = D.armed ∧ (manyK D 1 a T 2).room = D.room ∧ (manyK D 1 a T 2).table = D.table ∧ (manyK D 1 a T 2).stays = D.stays := ⟨rfl, rfl, rfl, rfl, rfl⟩
theorem rd_many (h1 : D.on = true) (h3 : D.room = 37) (hb : 0 ≤ b ∧ b < 10) (hT : T.size = 128) : readT (manyK D 1 (17 + 2 * b) T 2) (17 + 2 * b) 2 = T := by
  rw [(rd_ok (D := manyK D 1 (17 + 2 * b) T 2) h1 h3 hb).2, read_many _ _ _ _ _ hT, arr_list]
theorem rd_other (h1 : D.on = true) (h3 : D.room = 37) (hb : 0 ≤ b ∧ b < 10) (hn : 0 ≤ n ∧ n < 10) (hne : n ≠ b) : readT (manyK D 1 (17 + 2 * b) T 2) (17 + 2 * n) 2 = readT D (17 + 2 * n) 2 := by
  rw [(rd_ok (D := manyK D 1 (17 + 2 * b) T 2) h1 h3 hn).2, (rd_ok h1 h3 hn).2, read_far _ _ _ _ _ _ _ (by omega)]
end
theorem load_zero {D : Dk} (R : ReadyD D) {w0 W : World} {g N : Nat} {bl : List (Nat × TypeId × Array Value)} (h : OwnL w0 g N D bl W) (n : Int) (hn : 0 ≤ n ∧ n < 10) :
    Calls Tryz.prog 8 #[.pointer (some ⟨g, 0, none⟩), sagg sh0, .int .i64 n] W fun x w' => x = .returned (.tuple #[iagg ⟨n, 0, zerosT 96⟩, .int .i64 0]) ∧ OwnL w0 g N D bl w' :=
  bload_l h n hn (rd_ok R.on R.room hn).1 ⟨n, 0, zerosT 96⟩ 0 (by rw [rd_zero R.on R.room hn R.calm]; exact get_zeros n)
theorem store_new {D : Dk} (R : ReadyD D) {w0 W : World} {g N : Nat} {bl : List (Nat × TypeId × Array Value)} (h : OwnL w0 g N D bl W) (x : Im) (hg : Good x) (h10 : x.b < 10) (hN : N ≤ 10000000) :
    Calls Tryz.prog 6 #[.pointer (some ⟨g, 0, none⟩), sagg sh0, .int .i64 1, .int .u64 9, iagg x] W fun z w' => z = .returned (.int .i64 0) ∧ OwnL w0 g (N + 16) (manyK D 1 (17 + 2 * x.b) (putT x) 2) bl w' :=
  bstore_l h x hg h10 1 9 hN _ (wr_ok R.on R.armed R.room R.table ⟨hg.b.1, h10⟩ (putT_size hg.d)).1 (wr_ok R.on R.armed R.room R.table ⟨hg.b.1, h10⟩ (putT_size hg.d)).2
theorem load_new {D : Dk} (h1 : D.on = true) (h3 : D.room = 37) {w0 W : World} {g N : Nat} {bl : List (Nat × TypeId × Array Value)} (x : Im) (hg : Good x) (h10 : x.b < 10) (h : OwnL w0 g N (manyK D 1 (17 + 2 * x.b) (putT x) 2) bl W) :
    Calls Tryz.prog 8 #[.pointer (some ⟨g, 0, none⟩), sagg sh0, .int .i64 x.b] W fun z w' => z = .returned (.tuple #[iagg x, .int .i64 0]) ∧ OwnL w0 g N (manyK D 1 (17 + 2 * x.b) (putT x) 2) bl w' := by
  have hr : readE (manyK D 1 (17 + 2 * x.b) (putT x) 2) (17 + 2 * x.b) 2 = 0 := (rd_ok (D := manyK D 1 (17 + 2 * x.b) (putT x) 2) ((many_keep D _ _).1.trans h1) ((many_keep D _ _).2.2.1.trans h3) ⟨hg.b.1, h10⟩).1
  have ht := rd_many h1 h3 ⟨hg.b.1, h10⟩ (putT_size hg.d)
  generalize manyK D 1 (17 + 2 * x.b) (putT x) 2 = D2 at *
  exact bload_l h x.b ⟨hg.b.1, h10⟩ hr x 0 (by rw [ht]; exact get_put hg)
def Quiet (w : World) (e : Ending) (w' : World) : Prop := e = .returned (.bool true) ∧ Below w.heap.size w w'
def abc : ByteArray := ⟨#[97, 98, 99]⟩
def im7 : Im := ⟨3, 7, fillT abc⟩
theorem good7 : Good im7 := ⟨by decide, by decide, fillT_size _ (by decide)⟩
set_option maxHeartbeats 8000000 in
theorem alive_any (w : World) : Calls Tryz.prog 4 #[] w (Quiet w) := by
  have kr := fun W => ready_any W
  unfold ReadyOut at kr
  have R := dr_ready
  have hN0 := nr_le
  generalize DR = D0 at *
  generalize NR = N0 at *
  have kp := fun W => pad_ok abc (by decide) W
  have hfs : (fillT abc).size = 96 := good7.d
  have hst : D0.stays = [] := R.calm.stays
  have kl : ∀ (w0 W : World) (g N : Nat) (bl : List (Nat × TypeId × Array Value)) (h : OwnL w0 g N D0 bl W), Calls Tryz.prog 8 #[.pointer (some ⟨g, 0, none⟩), sagg sh0, .int .i64 3] W fun x w' => x = .returned (.tuple #[iagg ⟨3, 0, zerosT 96⟩, .int .i64 0]) ∧ OwnL w0 g N D0 bl w' := fun w0 W g N bl h => load_zero R h 3 (by decide)
  have ks := fun (w0 W : World) (g : Nat) (bl : List (Nat × TypeId × Array Value)) (h : OwnL w0 g N0 D0 bl W) => store_new R h im7 good7 (by decide) (Nat.le_trans hN0 (by decide))
  have kl2 := fun (w0 W : World) (g N : Nat) (bl : List (Nat × TypeId × Array Value)) (h : OwnL w0 g N (manyK D0 1 (17 + 2 * im7.b) (putT im7) 2) bl W) => load_new R.on R.room im7 good7 (by decide) h
  have e7 : iagg im7 = .agg #[.int .i64 3, .int .u64 7, .string (fillT abc)] := rfl
  have e7b : im7.b = 3 := rfl
  generalize manyK D0 1 (17 + 2 * im7.b) (putT im7) 2 = D2 at *
  rw [e7] at ks kl2
  rw [e7b] at kl2
  have HST := Lib.hid hst
  have kp2 : ∀ W, Calls Tryz.prog 10 #[.string ⟨#[97, 98, 99]⟩] W fun e w' => e = .returned (.tuple #[.string (fillT abc), .int .i64 0]) ∧ Below W.heap.size W w' := kp
  clear kp
  generalize fillT abc = P at *
  have hpp : (P.toList == P.toList) = true := by simp
  have hps : (P.size : Int) = 96 := by omega
  unfold iagg sagg sh0 at *
  generalize zerosT 96 = Z at *
  clear R e7 e7b hfs hst
  have HKL := Lib.hid kl
  have HKL2 := Lib.hid kl2
  have HKS := Lib.hid ks
  clear kl kl2 ks
  go_enter Tryz.func4, Tryz.ntmps4
  go_upto_region 2 with (go_at_call 5; refine (kr _).mono ?_; rintro x w1 ⟨g, r, p, C, rfl, hd, hb, _, _, _⟩; have H1 := Lib.hid (Own.toL (w0 := w) ⟨p, hd, hb⟩); clear hd hb)
  have h2 := H1.out.beside TLa #[.int .i64 2, .int .i64 10, .int .i64 8, .int .i64 4, .int .i64 32]
  obtain ⟨W2, hW2⟩ : ∃ W2, w1.alloc (.cells #[.int .i64 2, .int .i64 10, .int .i64 8, .int .i64 4, .int .i64 32] TLa) = W2 := ⟨_, rfl⟩
  rw [hW2] at h2 ⊢
  have hge : w.heap.size ≤ w1.heap.size := H1.out.bel.size
  obtain ⟨x3, hx3⟩ : ∃ x, w1.heap.size = x := ⟨_, rfl⟩
  rw [hx3] at h2 hge ⊢
  have H2 := Lib.hid h2
  clear h2 hW2 hx3 kr H1
  go_upto_region 5 with (go_at_call 10; refine (kp2 _).mono ?_; rintro x w3 ⟨rfl, hb3⟩; have ho := H2.out.then_ hb3; have bk := ho.b0; have c30 : w3.cell? ⟨x3, 0, none⟩ = some (.int .i64 2) := bk.cell 0; have c31 : w3.cell? ⟨x3, 1, none⟩ = some (.int .i64 10) := bk.cell 1; have c32 : w3.cell? ⟨x3, 2, none⟩ = some (.int .i64 8) := bk.cell 2; have c33 : w3.cell? ⟨x3, 3, none⟩ = some (.int .i64 4) := bk.cell 3; have c34 : w3.cell? ⟨x3, 4, none⟩ = some (.int .i64 32) := bk.cell 4; have H3 := Lib.hid ho; clear hb3 bk ho)
  go_upto_region 6 with (go_at_call 8; refine (HKL.out _ _ _ _ _ H3.out).mono ?_; rintro x w4 ⟨rfl, ho4⟩; have H4 := Lib.hid ho4; clear ho4)
  have h5 := H4.out.beside TIm #[.int .i64 3, .int .u64 0, .string Z]
  obtain ⟨W5, hW5⟩ : ∃ W5, w4.alloc (.cells #[.int .i64 3, .int .u64 0, .string Z] TIm) = W5 := ⟨_, rfl⟩
  rw [hW5] at h5 ⊢
  have hge7 : x3 < w4.heap.size := H4.out.b0.lt
  obtain ⟨x7, hx7⟩ : ∃ x, w4.heap.size = x := ⟨_, rfl⟩
  rw [hx7] at h5 hge7 ⊢
  have q1 : W5.cell? ⟨x7, 1, none⟩ = some (.int .u64 0) := h5.b0.cell 1
  have bk5 := h5.b1
  have c50 : W5.cell? ⟨x3, 0, none⟩ = some (.int .i64 2) := bk5.cell 0
  have c51 : W5.cell? ⟨x3, 1, none⟩ = some (.int .i64 10) := bk5.cell 1
  have c52 : W5.cell? ⟨x3, 2, none⟩ = some (.int .i64 8) := bk5.cell 2
  have c53 : W5.cell? ⟨x3, 3, none⟩ = some (.int .i64 4) := bk5.cell 3
  have c54 : W5.cell? ⟨x3, 4, none⟩ = some (.int .i64 32) := bk5.cell 4
  have H5 := Lib.hid h5
  clear h5 hW5 hx7 c30 c31 c32 c33 c34 bk5
  go_upto_region 8 with (go_at_call 6; refine (HKS.out _ _ _ _ H5.out).mono ?_; rintro x w6 ⟨rfl, ho6⟩; have bk := ho6.b1; have c60 : w6.cell? ⟨x3, 0, none⟩ = some (.int .i64 2) := bk.cell 0; have c61 : w6.cell? ⟨x3, 1, none⟩ = some (.int .i64 10) := bk.cell 1; have c62 : w6.cell? ⟨x3, 2, none⟩ = some (.int .i64 8) := bk.cell 2; have c63 : w6.cell? ⟨x3, 3, none⟩ = some (.int .i64 4) := bk.cell 3; have c64 : w6.cell? ⟨x3, 4, none⟩ = some (.int .i64 32) := bk.cell 4; have H6 := Lib.hid ho6; clear ho6 bk q1)
  go_upto_region 9 with (go_at_call 8; refine (HKL2.out _ _ _ _ _ H6.out).mono ?_; rintro x w7 ⟨rfl, ho7⟩; have bk := ho7.b0; have u0 : w7.cell? ⟨x7, 0, none⟩ = some (.int .i64 3) := bk.cell 0; have u1 : w7.cell? ⟨x7, 1, none⟩ = some (.int .u64 0) := bk.cell 1; have u2 : w7.cell? ⟨x7, 2, none⟩ = some (.string Z) := bk.cell 2; have fu0 := bk.frozen 0; have fu1 := bk.frozen 1; have fu2 := bk.frozen 2; have HB7 := Lib.hid bk; have H7 := Lib.hid ho7.bel; clear ho7 bk)
  have b8 := ((HB7.out.set_ 0 (.int .i64 3)).set_ 1 (.int .u64 7)).set_ 2 (.string P)
  have v0 : (((w7.setCell ⟨x7, 0, none⟩ (.int .i64 3)).setCell ⟨x7, 1, none⟩ (.int .u64 7)).setCell ⟨x7, 2, none⟩ (.string P)).cell? ⟨x7, 0, none⟩ = some (.int .i64 3) := b8.cell 0
  have v1 : (((w7.setCell ⟨x7, 0, none⟩ (.int .i64 3)).setCell ⟨x7, 1, none⟩ (.int .u64 7)).setCell ⟨x7, 2, none⟩ (.string P)).cell? ⟨x7, 1, none⟩ = some (.int .u64 7) := b8.cell 1
  have v2 : (((w7.setCell ⟨x7, 0, none⟩ (.int .i64 3)).setCell ⟨x7, 1, none⟩ (.int .u64 7)).setCell ⟨x7, 2, none⟩ (.string P)).cell? ⟨x7, 2, none⟩ = some (.string P) := b8.cell 2
  have hgx : w.heap.size ≤ x7 := by omega
  have H8 := Lib.hid (((H7.out.setCell (p := ⟨x7, 0, none⟩) hgx (.int .i64 3)).setCell (p := ⟨x7, 1, none⟩) hgx (.int .u64 7)).setCell (p := ⟨x7, 2, none⟩) hgx (.string P))
  clear b8
  go_wp2_with fail
  exact end_ret (t := 0) (v := .bool true) (by kernel_rfl) rfl rfl ⟨rfl, H8.out⟩
end Go.Proofs.YtcbhdggjcelmaaaGreat.BK

/- The document's own writer over the bytes of a text: Num. No condition. -/
namespace Go.Proofs.YtcbhdggjcelmaaaGreat.WI
set_option maxRecDepth 100000
open Go.RowKit
set_option linter.unusedVariables false
set_option linter.unusedSimpArgs false

/-- Bytes at the front of a row that may be written, whatever its mark is. -/
def MRow (w : World) (x c : Nat) (bs : List Int) : Prop :=
  x < w.heap.size ∧ bs.length ≤ c ∧ c ≤ maxLen ∧ (∀ j, j < c → (w.cell? ⟨x, j, none⟩).isSome = true ∧ w.frozen? ⟨x, j, none⟩ = false) ∧ ∀ j u, (bs.map byteV)[j]? = some u → w.cell? ⟨x, j, none⟩ = some u
theorem MRow.keeps {w w' : World} {x c : Nat} {bs : List Int} {S : Nat → Prop} (h : MRow w x c bs) (hk : Keeps S w w') (hn : ¬ S x) : MRow w' x c bs := by
  obtain ⟨h1, h2, h3, h4, h5⟩ := h
  refine ⟨Nat.lt_of_lt_of_le h1 hk.size, h2, h3, fun j hj => ?_, fun j u hu => (hk.cell (p := ⟨x, j, none⟩) h1 hn).trans (h5 j u hu)⟩
  rw [hk.cell (p := ⟨x, j, none⟩) h1 hn, hk.frozen (p := ⟨x, j, none⟩) h1 hn]
  exact h4 j hj
theorem keeps_setC (x : Nat) (vs : List Value) : ∀ (o : Nat) (w0 w : World), Keeps (only x) w0 w → Keeps (only x) w0 (w.setCells x o vs) := by
  induction vs with
  | nil => intro o w0 w h; exact h
  | cons v r ih =>
    intro o w0 w h
    rw [World.setCells]
    exact ih _ _ _ (h.cell_ o v)
theorem froz_setC (x : Nat) (vs : List Value) : ∀ (o : Nat) (w : World) (p : Addr), (w.setCells x o vs).frozen? p = w.frozen? p := by
  induction vs with
  | nil => intro o w p; rfl
  | cons v r ih => intro o w p; rw [World.setCells, ih, World.frozen?_setCell]
theorem size_setC (x : Nat) (vs : List Value) : ∀ (o : Nat) (w : World), (w.setCells x o vs).heap.size = w.heap.size := by
  induction vs with
  | nil => intro o w; rfl
  | cons v r ih => intro o w; rw [World.setCells, ih]; simp [World.setCell]
theorem cell_setC (x : Nat) : ∀ (vs : List Value) (o : Nat) (w : World) (j : Nat) (u : Value), (∀ i, i < vs.length → (w.cell? ⟨x, o + i, none⟩).isSome = true) → vs[j]? = some u → (w.setCells x o vs).cell? ⟨x, o + j, none⟩ = some u
  | [], _, _, _, _, _, h => by simp at h
  | v :: r, o, w, 0, u, hs, h => by
    simp at h
    subst h
    rw [World.setCells, World.cell?_setCells_out x r (o + 1) _ ⟨x, o + 0, none⟩ (fun _ _ => .inl (by show o + 0 < o + 1; omega))]
    obtain ⟨u, hu⟩ := Option.isSome_iff_exists.1 (hs 0 (by simp))
    exact World.cell?_setCell_same _ _ _ hu
  | v :: r, o, w, j + 1, u, hs, h => by
    rw [World.setCells]
    have h1 := cell_setC x r (o + 1) (w.setCell ⟨x, o, none⟩ v) j u (fun i hi => by
      have h2 := hs (i + 1) (by simp; omega)
      rw [World.cell?_setCell_other _ _ _ _ (fun e => by injection e with _ e2 _; omega)]
      rw [show o + 1 + i = o + (i + 1) by omega]
      exact h2) (by simpa using h)
    rw [show o + (j + 1) = o + 1 + j by omega]
    exact h1
theorem MRow.more {w : World} {x c : Nat} {bs ys : List Int} (h : MRow w x c bs) (hl : bs.length + ys.length ≤ c) : MRow (w.setCells x bs.length (ys.map byteV)) x c (bs ++ ys) := by
  obtain ⟨h1, h2, h3, h4, h5⟩ := h
  have hin := fun j u hu => cell_setC x (ys.map byteV) bs.length w j u (fun i hi => (h4 (bs.length + i) (by rw [List.length_map] at hi; omega)).1) hu
  refine ⟨by rw [size_setC]; exact h1, by rw [List.length_append]; exact hl, h3, fun j hj => ⟨?_, by rw [froz_setC]; exact (h4 j hj).2⟩, fun j u hu => ?_⟩
  · by_cases hq : bs.length ≤ j ∧ j < bs.length + ys.length
    · obtain ⟨u, hu⟩ : ∃ u, (ys.map byteV)[j - bs.length]? = some u := ⟨_, List.getElem?_eq_getElem (by rw [List.length_map]; omega)⟩
      have := hin _ _ hu
      rw [show bs.length + (j - bs.length) = j by omega] at this
      rw [this]; rfl
    · rw [World.cell?_setCells_out x (ys.map byteV) bs.length w ⟨x, j, none⟩ (fun _ _ => by rw [List.length_map]; show j < bs.length ∨ bs.length + ys.length ≤ j; omega)]
      exact (h4 j hj).1
  · rw [List.map_append] at hu
    by_cases hq : j < bs.length
    · rw [List.getElem?_append_left (by rw [List.length_map]; exact hq)] at hu
      rw [World.cell?_setCells_out x (ys.map byteV) bs.length w ⟨x, j, none⟩ (fun _ _ => .inl hq)]
      exact h5 j u hu
    · rw [List.getElem?_append_right (by rw [List.length_map]; omega), List.length_map] at hu
      have := hin _ _ hu
      rw [show bs.length + (j - bs.length) = j by omega] at this
      exact this
/-- What an append onto such a row leaves. -/
def AppM (w : World) (x c : Nat) (bs ys : List Int) (k : Nat) (a' : Option Addr) (c' : Nat) (w' : World) : Prop :=
  (a' = some ⟨x, 0, none⟩ ∧ c' = c ∧ bs.length + k ≤ c ∧ w' = w.setCells x bs.length (ys.map byteV)) ∨ (w'.ownsRow w.heap.size 5 1 (.slice a' (bs.length + k) c') (bs.length + k) (bs.map byteV ++ ys.map byteV) ∧ w.grownBy w' none)
theorem wpList_append_m {P : Program} (w : World) {ops : Array Oper} {rest : List Oper} {o : Oper} {a : Act} {Q : Exit → Act → World → Prop}
    (hg : o.guard = none) (s x : Operand) (t : TypeId) (hop : o.op = Op.call { callee := Callee.builtin Builtin.append, args := #[s, x], argTypes := #[t, t] })
    (i : TypeInfo) (h1 : P.underlying t = some (.slice 5)) (h2 : P.info? 5 = some i) (h3 : i.zero = some (.int .u8 0)) (h4 : i.size = 1) (h5 : i.bytes = 1)
    (x0 c n : Nat) (bs : List Int) (hn : bs.length = n) (hs : a.eval s = .slice (some ⟨x0, 0, none⟩) n c) (hm : MRow w x0 c bs)
    (b1 k c1 : Nat) (ys : List Int) (hk : ys.length = k) (hx : a.eval x = .slice (some ⟨b1, 0, none⟩) k c1) (hc : ∀ j u, (ys.map byteV)[j]? = some u → w.cell? ((⟨b1, 0, none⟩ : Addr).add j) = some u)
    (hmx : n + k ≤ maxLen) (hsm : n + k ≤ 2000000)
    (h : ∀ a' c' w', AppM w x0 c bs ys k a' c' w' → wpList P ops Q rest (a.put o.dst (.slice a' (n + k) c')) w') :
    wpList P ops Q (o :: rest) a w := by
  subst hn
  obtain ⟨m1, m2, m3, m4, m5⟩ := hm
  refine wpList_append_arg w hg s x t hop 5 i (.int .u8 0) 1 1 h1 h2 h3 h4 h5 rfl (by decide) x0 0 bs.length c (bs.map byteV) hs (by rw [List.length_map]; omega) (fun j u hu => by rw [Nat.zero_add]; exact m5 j u hu)
    ⟨b1, 0, none⟩ k c1 (ys.map byteV) hx (by rw [List.length_map]; omega) hc (by intro u hu; obtain ⟨q, _, rfl⟩ := List.mem_map.1 hu; rfl) (fun hr j hj => ?_) hmx (by omega) (fun hr => ?_) (fun hr v' w' r1 r2 => ?_)
  · rw [List.length_map] at hj
    rw [show 0 + bs.length * 1 + j = bs.length + j by omega]
    exact m4 _ (by omega)
  · rw [show 0 + bs.length * 1 = bs.length by omega]
    exact h _ _ _ (.inl ⟨rfl, rfl, hr, rfl⟩)
  · obtain ⟨b3, c3, rfl, _, _⟩ := r1.form (by omega)
    exact h _ _ _ (.inr ⟨r1, r2⟩)
def RWM (W : World) (B g x c : Nat) (bs : List Int) (w : World) : Prop :=
  Blk w g TRWr #[.slice (some ⟨x, 0, none⟩) bs.length c, .int .i64 0] ∧ MRow w x c bs ∧ ¬ only g x ∧ Below B W w ∧ B ≤ g ∧ B ≤ x
def RWg (W : World) (B g : Nat) (bs : List Int) (w : World) : Prop := RWr W B g bs w ∨ ∃ x c, RWM W B g x c bs w
set_option maxRecDepth 100000 in
set_option maxHeartbeats 4000000 in
theorem rwnum_mark {W w : World} {B g x0 c0' : Nat} {bs : List Int} (h : RWM W B g x0 c0' bs w) (hbl : bs.length ≤ 1000000) (v : Int) (h0 : 0 ≤ v) (h1 : v ≤ 18446744073709551615) (n : Nat) (hn1 : 1 ≤ n) (hn8 : n ≤ 8) (hz : shr8 v n = 0) :
    Calls Tryz.prog 43 #[.pointer (some ⟨g, 0, none⟩), .int .u64 v, .int .i64 (n : Int)] w fun e w' => e = .returned (.tuple #[]) ∧ RWg W B g (bs ++ lowB v n) w' := by
  obtain ⟨i0, hi, hz0, hz1, hz2⟩ := info_parts infoB
  obtain ⟨hb, ho, hxg, hB, hBg, hBx⟩ := h
  have hf := rfail_ok hb
  have n1 : decide ((n : Int) < 1) = false := by simp; omega
  have n2 : decide ((8 : Int) < (n : Int)) = false := by simp; omega
  go_enter Tryz.func43, Tryz.ntmps43
  go_wp2_with (go_at_call 71; refine hf.mono ?_; rintro e w2 ⟨rfl, hb2, hk2⟩)
  have h2 : RWM W B g x0 c0' bs w2 := ⟨hb2, ho.keeps hk2 hxg, hxg, hk2.after hB (fun k hk => by rw [show k = g from hk]; exact hBg) (by have := hb.lt; omega), hBg, hBx⟩
  have H2 := Lib.hid h2
  clear hb ho hB hf hb2 hk2 h2
  go_loopw [1, 6, 7] (fun x s i wr => ∃ (k : Nat) (a' : Option Addr) (c' : Nat), k ≤ n ∧ i = .int .i64 (k : Int) ∧ x = .int .u64 (shr8 v k) ∧ s = .slice a' k c' ∧ Hid (wr.ownsRow w2.heap.size 5 1 (.slice a' k c') k ((lowB v k).map byteV)) ∧ Hid (Below w2.heap.size w2 wr)) (fun _ _ i _ => n - (intOf i).toNat)
  case atStart => exact ⟨0, none, 0, by omega, rfl, rfl, rfl, Lib.hid (World.ownsRow_nil _ _ _ _), Lib.hid (belowSame _)⟩
  case round =>
    obtain ⟨k, a', c', hk, rfl, rfl, rfl, HO, HB⟩ := hrel
    by_cases hlt : k < n
    · have hs8 := shr8_b h0 (by omega) k
      have d1 : decide ((k : Int) < (n : Int)) = true := by simp; omega
      have hsn : (lowB v k).map byteV ++ [byteV (shr8 v k % 256)] = (lowB v (k + 1)).map byteV := by rw [lowB_snoc, List.map_append]; rfl
      have HS := Lib.hid hsn
      have hw8 : IntKind.u8.wrap (shr8 v k % 256) = shr8 v k % 256 := IntWalk.u8_in _ (by omega)
      have ho1 := HO.out.alloc (.cells #[.int .u8 (shr8 v k % 256)] 5)
      have hBw : w2.heap.size ≤ (wr.alloc (.cells #[.int .u8 (shr8 v k % 256)] 5)).heap.size := by have := HB.out.size; simp; omega
      have hmx : k + 1 ≤ maxLen := by unfold maxLen; omega
      have hfin : ∀ (w3 : World) (a3 : Option Addr) (c3 : Nat), w3.ownsRow w2.heap.size 5 1 (.slice a3 (k + 1) c3) (k + 1) ((lowB v k).map byteV ++ [byteV (shr8 v k % 256)]) → (wr.alloc (.cells #[.int .u8 (shr8 v k % 256)] 5)).grownBy w3 (Value.slice a' 0 0).ownBlock →
          w3.ownsRow w2.heap.size 5 1 (.slice a3 (k + 1) c3) (k + 1) ((lowB v (k + 1)).map byteV) ∧ Below w2.heap.size w2 w3 := by
        intro w3 a3 c3 ho3 hg3
        refine ⟨by rw [← HS.out]; exact ho3, ?_⟩
        have hlow : ∀ j, (Value.slice a' 0 0).ownBlock = some j → w2.heap.size ≤ j := fun j hj => (HO.out.lt j ((own_blk_ _ _ _).trans hj)).1
        have hA := belowNew HB.out (.cells #[.int .u8 (shr8 v k % 256)] 5)
        exact hA.trans ⟨hg3.os, hg3.tape, hg3.output, hg3.size, fun j hj => hg3.block j (by omega) (fun e => by have := hlow j e.symm; omega)⟩
      have HF := Lib.hid hfin
      have HO8 := Lib.hid (shr8_out v k)
      obtain ⟨sv, hsv⟩ : ∃ s, shr8 v k = s := ⟨_, rfl⟩
      rw [hsv] at hs8 hw8 ho1 hBw HF HO8
      rw [hsv]
      clear hsn hfin hsv HS
      go_wp2_with (at_builtin; refine wpList_append_lie _ rfl _ _ 77 rfl w2.heap.size 5 i0 _ 1 1 Tryz.underlying77 hi hz0 hz1 hz2 rfl (by decide) a' k c' ((lowB v k).map byteV) rfl ho1 (some ⟨wr.heap.size, 0, none⟩) 1 1 [byteV (sv % 256)] rfl (Lies.of_blk (cs := #[.int .u8 (sv % 256)]) (Blk.new _ _ _)) (by simp [byteV, Value.oneCell']) hmx (by omega) hBw ?_; intro a3 c3 w3 ho3 hg3 hat3; have H3 := Lib.hid (HF.out w3 a3 c3 ho3 hg3); clear ho3 hg3 hat3 ho1)
      go_roundw
      case rel => exact ⟨k + 1, a3, c3, by omega, by go_num, by rw [HO8.out], rfl, Lib.hid H3.out.1, Lib.hid H3.out.2⟩
      case measure => simp [intOf]; omega
    · obtain rfl : k = n := by omega
      rw [hz]
      obtain ⟨hb, ho, hxg, hB, _, _⟩ := H2.out
      have c0 : wr.cell? ⟨g, 0, none⟩ = some (.slice (some ⟨x0, 0, none⟩) bs.length c0') := (hb.below HB.out hb.lt).cell 0
      have hb3 := hb.below HB.out hb.lt
      have ho3 : MRow wr x0 c0' bs := ho.keeps (Keeps.of_below HB.out (fun _ => False)) id
      have hwB : B ≤ w2.heap.size := by have := hb.lt; omega
      have hB3 : Below B W wr := hB.trans (HB.out.mono hwB)
      have hmx : bs.length + k ≤ maxLen := by unfold maxLen; omega
      have hlk := lowB_len v k
      obtain ⟨b1, hb1⟩ : ∃ b1, a' = some ⟨b1, 0, none⟩ := by
        obtain ⟨b1, _, hv, _, _⟩ := HO.out.form (by omega)
        injection hv with hv
        exact ⟨b1, hv⟩
      subst hb1
      have hnew : ∀ j u, ((lowB v k).map byteV)[j]? = some u → wr.cell? ((⟨b1, 0, none⟩ : Addr).add j) = some u := HO.out.cells (g := b1) rfl
      have hfin : ∀ (a3 : Option Addr) (c3 : Nat) (w3 : World), AppM wr x0 c0' bs (lowB v k) k a3 c3 w3 →
          w3.cell? ⟨g, 0, none⟩ = some (.slice (some ⟨x0, 0, none⟩) bs.length c0') ∧ w3.frozen? ⟨g, 0, none⟩ = false ∧ RWg W B g (bs ++ lowB v k) (w3.setCell ⟨g, 0, none⟩ (.slice a3 (bs.length + k) c3)) := by
        intro a3 c3 w3 hap
        rcases hap with ⟨rfl, rfl, hle, rfl⟩ | ⟨h5, h6⟩
        · have hk := keeps_setC x0 ((lowB v k).map byteV) bs.length wr wr (Keeps.refl (only x0) wr)
          have hb4 := hb3.keeps hk (fun e => hxg e.symm)
          have hm4 := ho3.more (ys := lowB v k) (by rw [hlk]; exact hle)
          refine ⟨hb4.cell 0, hb4.frozen 0, .inr ⟨x0, c3, ?_, ?_, hxg, ?_, hBg, hBx⟩⟩
          · rw [List.length_append, hlk]
            simpa using hb4.set_ 0 (.slice (some ⟨x0, 0, none⟩) (bs.length + k) c3)
          · exact hm4.keeps (keep1 _ g 0 _) (fun e => hxg e)
          · exact (hk.after hB3 (fun j hj => by rw [show j = x0 from hj]; exact hBx) (by have := hb3.lt; omega)).setCell hBg _
        · have hb4 := hb3.grown h6 (by simp)
          obtain ⟨b3, c4, hv, hb5, _⟩ := h5.form (by omega)
          injection hv with hv1 hv2 hv3
          subst hv1
          refine ⟨hb4.cell 0, hb4.frozen 0, .inl ⟨some ⟨b3, 0, none⟩, c3, ?_, ?_, ?_, hBg⟩⟩
          · rw [List.length_append, hlk]
            simpa using hb4.set_ 0 (.slice (some ⟨b3, 0, none⟩) (bs.length + k) c3)
          · rw [List.length_append, List.map_append, hlk]
            refine own_keeps (own_base h5 (fun j hj => by have := (h5.lt j hj).1; have := hb3.lt; omega)) (keep1 w3 g 0 _) (fun j h1 h2 => ?_)
            have h3 : j = g := h2
            have h4 : b3 = j := by injection h1
            have := hb3.lt; omega
          · refine (hB3.trans ⟨h6.os, h6.tape, h6.output, h6.size, fun j hj => h6.block j (by have := hb3.lt; omega) (by simp)⟩).setCell hBg _
      have HF := Lib.hid hfin
      have HM := Lib.hid ho3
      have HNEW := Lib.hid hnew
      have HLK := Lib.hid hlk
      obtain ⟨bl, hbl2⟩ : ∃ l, bs.length = l := ⟨_, rfl⟩
      have HBL := Lib.hid hbl2
      rw [hbl2] at c0 HF hmx hbl
      have hsm : bl + k ≤ 2000000 := by omega
      clear hb ho hB hb3 hB3 hfin H2 hbl2 hz hlk hnew ho3
      go_wp2_with (at_builtin; refine wpList_append_m _ rfl _ _ 77 rfl i0 Tryz.underlying77 hi hz0 hz1 hz2 x0 c0' bl bs HBL.out rfl HM.out b1 k c' (lowB v k) HLK.out rfl HNEW.out hmx hsm ?_; intro a3 c3 w3 hap; obtain ⟨d1, d2, d3⟩ := HF.out a3 c3 w3 hap; have H3 := Lib.hid d3; clear hap d3 c0)
      refine bodyPost_end (results_none rfl _ _ _) rfl ?_
      exact ⟨rfl, H3.out⟩
end Go.Proofs.YtcbhdggjcelmaaaGreat.WI

/- 'make([]byte, n)', and a text made of bytes. No condition. -/
namespace Go.Proofs.YtcbhdggjcelmaaaGreat
set_option maxRecDepth 100000
open Go.RowKit
set_option linter.unusedVariables false
set_option linter.unusedSimpArgs false

theorem infByte : (Tryz.prog.info? 5).map (fun i => (i.zero, i.size, i.bytes)) = some (some (.int .u8 0), 1, 1) := by kernel_rfl
abbrev zeroCells (k : Nat) : Array Value := madeCells (Value.int .u8 0).cells (k * 1)
theorem zeros_make (k : Nat) (hk : k ≤ 100000) (W : World) : (Instr.makeSlice 77 (.int .i64 (k : Int)) (.int .i64 (k : Int))).run Tryz.prog W = .ok (.slice (some ⟨W.heap.size, 0, none⟩) k k) (W.alloc (.cells (zeroCells k) 5)) := by
  obtain ⟨i0, hi, hz0, hz1, hz2⟩ := info_parts infByte
  have hr := run_make (P := Tryz.prog) W 77 5 i0 (.int .u8 0) Tryz.underlying77 hi hz0 .i64 .i64 (k : Int) (k : Int) (by omega) (by omega) (by rw [hz2]; omega) (by omega)
  rw [hz1] at hr
  simp only [Int.toNat_natCast] at hr
  exact hr
theorem zeros_cells (k : Nat) (W : World) : Cells (W.alloc (.cells (zeroCells k) 5)) W.heap.size (List.replicate k 0) := by
  refine ⟨by simp, fun j x hx => ?_⟩
  have hb : Blk (W.alloc (.cells (zeroCells k) 5)) W.heap.size 5 (zeroCells k) := Blk.new _ _ _
  refine ⟨?_, hb.frozen j⟩
  rw [hb.cell]
  have hj : j < k := by
    rcases Nat.lt_or_ge j k with h | h
    · exact h
    · rw [List.getElem?_eq_none (by simpa using h)] at hx; cases hx
  rw [List.getElem?_replicate, if_pos hj] at hx
  injection hx with hx
  subst hx
  simp [zeroCells, madeCells, hj, Value.cells, Nat.mod_one]
theorem text_of {w : World} {g : Nat} {l : List UInt8} (h : Cells w g l) (n c : Nat) (hn : l.length = n) : (convert 77 9 (.slice (some ⟨g, 0, none⟩) n c)).run Tryz.prog w = .ok (.string ⟨l.toArray⟩) w :=
  h.str (P := Tryz.prog) 77 9 5 Tryz.underlying77 Tryz.underlying5 Tryz.underlying9 n c hn
end Go.Proofs.YtcbhdggjcelmaaaGreat

/- The document's own answer: PutBlock, Pad. No condition. -/
namespace Go.Proofs.YtcbhdggjcelmaaaGreat.WI
set_option maxRecDepth 100000
open Go.RowKit
set_option linter.unusedVariables false
set_option linter.unusedSimpArgs false
section
variable {W w w' : World} {B g : Nat} {bs : List Int}
theorem RWg.bel (h : RWg W B g bs w) : Below B W w := by
  rcases h with h | ⟨x, c, _, _, _, h, _⟩
  · exact h.bel
  · exact h
theorem RWg.cell (h : RWg W B g bs w) {b i : Nat} {v : Value} (hb : b < B) (hc : W.cell? ⟨b, i, none⟩ = some v) : w.cell? ⟨b, i, none⟩ = some v := (h.bel.cell (p := ⟨b, i, none⟩) hb).trans hc
theorem RWg.str (h : RWg W B g bs w) (n : Nat) (hn : bs.length = n) (hl : 0 < n) : ∃ b c, w.cell? ⟨g, 0, none⟩ = some (.slice (some ⟨b, 0, none⟩) n c) ∧ (convert 77 9 (.slice (some ⟨b, 0, none⟩) n c)).run Tryz.prog w = .ok (.string (strOfNums bs)) w := by
  rcases h with h | ⟨x, c, hb, hm, _⟩
  · exact h.str n hn hl
  · subst hn
    refine ⟨x, c, hb.cell 0, ?_⟩
    exact run_convert_bytes_arg (P := Tryz.prog) w 77 5 Tryz.underlying77 Tryz.underlying5 x 0 bs.length c bs rfl (fun i hi => by
      rw [Nat.zero_add]
      have := hm.2.2.2.2 i (byteV bs[i]) (by rw [List.getElem?_map, List.getElem?_eq_getElem hi]; rfl)
      rw [this]
      simp [byteV, List.getElem?_eq_getElem hi]) 9 Tryz.underlying9
theorem rwgnum (h : RWg W B g bs w) (hbl : bs.length ≤ 1000000) (v : Int) (h0 : 0 ≤ v) (h1 : v ≤ 18446744073709551615) (n : Nat) (hn1 : 1 ≤ n) (hn8 : n ≤ 8) (hz : shr8 v n = 0) :
    Calls Tryz.prog 43 #[.pointer (some ⟨g, 0, none⟩), .int .u64 v, .int .i64 (n : Int)] w fun e w' => e = .returned (.tuple #[]) ∧ RWg W B g (bs ++ lowB v n) w' := by
  rcases h with h | ⟨x, c, h⟩
  · exact (rwnum_any h hbl v h0 h1 n hn1 hn8 hz).mono fun _ _ ⟨he, ho⟩ => ⟨he, .inl ho⟩
  · exact rwnum_mark h hbl v h0 h1 n hn1 hn8 hz
theorem rwgnum_4 (h : RWg W B g bs w) (hbl : bs.length ≤ 1000000) (v : Int) (h0 : 0 ≤ v) (h1 : v ≤ 4294967295) :
    Calls Tryz.prog 43 #[.pointer (some ⟨g, 0, none⟩), .int .u64 v, .int .i64 4] w fun e w' => e = .returned (.tuple #[]) ∧ RWg W B g (bs ++ lowB v 4) w' :=
  rwgnum h hbl v h0 (by omega) 4 (by omega) (by omega) (by show v / 256 / 256 / 256 / 256 = 0; omega)
theorem rwgnum_8 (h : RWg W B g bs w) (hbl : bs.length ≤ 1000000) (v : Int) (h0 : 0 ≤ v) (h1 : v ≤ 18446744073709551615) :
    Calls Tryz.prog 43 #[.pointer (some ⟨g, 0, none⟩), .int .u64 v, .int .i64 8] w fun e w' => e = .returned (.tuple #[]) ∧ RWg W B g (bs ++ lowB v 8) w' :=
  rwgnum h hbl v h0 h1 8 (by omega) (by omega) (by show v / 256 / 256 / 256 / 256 / 256 / 256 / 256 / 256 = 0; omega)
end
/-- A text's bytes as numbers. -/
def numsOf (s : ByteArray) : List Int := s.data.toList.map fun x => (x.toNat : Int)
theorem numsOf_len (s : ByteArray) : (numsOf s).length = s.size := by unfold numsOf; rw [List.length_map, Array.length_toList]; rfl
theorem strOf_app (a b : List Int) : strOfNums (a ++ b) = strOfNums a ++ strOfNums b := by
  apply ByteArray.ext
  apply Array.ext'
  rw [SM.app_data]
  show ((a ++ b).map fun x => UInt8.ofNat x.toNat) = (a.map fun x => UInt8.ofNat x.toNat) ++ (b.map fun x => UInt8.ofNat x.toNat)
  rw [List.map_append]
theorem strOf_nums (s : ByteArray) : strOfNums (numsOf s) = s := by
  unfold numsOf
  rw [strOfNums_bytes]
theorem rwm_new (w : World) (s : ByteArray) (hs : s.size ≤ 1000000) :
    RWM w w.heap.size (w.heap.size + 1) w.heap.size (grownCap w s.size 0 5) (numsOf s) ((Lib.bytesWorld w 5 s).alloc (.cells #[.slice (some ⟨w.heap.size, 0, none⟩) s.size (grownCap w s.size 0 5), .int .i64 0] TRWr)) := by
  have hge := grownCap_ge w s.size 0 5
  have hle := grownCap_le_maxLen w s.size 0 5 (by unfold maxLen; omega)
  have hsz := Lib.bytesWorld_size w 5 s
  have hat := Lib.bytesWorld_at_new w 5 s
  have hcs : (Lib.bytesCells w 5 s).size = grownCap w s.size 0 5 := by
    unfold Lib.bytesCells
    rw [Array.size_append, Array.size_map, Array.size_replicate]
    show s.size + _ = _
    omega
  have hm : MRow (Lib.bytesWorld w 5 s) w.heap.size (grownCap w s.size 0 5) (numsOf s) := by
    refine ⟨by omega, by rw [numsOf_len]; exact hge, hle, fun j hj => ⟨?_, ?_⟩, fun j u hu => ?_⟩
    · unfold World.cell?
      simp only [hat]
      simp
      omega
    · unfold World.frozen?
      simp only [hat]
      simp
      omega
    · unfold numsOf at hu
      rw [List.map_map, List.getElem?_map] at hu
      cases hx : s.data.toList[j]? with
      | none => rw [hx] at hu; cases hu
      | some y =>
        rw [hx] at hu
        injection hu with hu
        rw [← hu]
        exact ((cells_new w 5 s).2 j y hx).1
  refine ⟨?_, hm.keeps ((Keeps.refl (fun _ => False) _).alloc _) id, fun e => by have : w.heap.size = w.heap.size + 1 := e; omega, belowNew (below_bytes w 5 s) _, by omega, by omega⟩
  rw [numsOf_len, ← hsz]
  exact Blk.new _ _ _
end Go.Proofs.YtcbhdggjcelmaaaGreat.WI
namespace Go.Proofs.YtcbhdggjcelmaaaGreat.BK
open Go.RowKit Go.Proofs.YtcbhdggjcelmaaaGreat.WI Go.Proofs.YtcbhdggjcelmaaaGreat.SM
set_option linter.unusedVariables false
set_option linter.unusedSimpArgs false
theorem zeros_text (k : Nat) : (⟨(List.replicate k (0 : UInt8)).toArray⟩ : ByteArray) = zerosT k := by
  have h : ∀ k : Nat, Lib.repeatL [0] k = List.replicate k (0 : UInt8) := by
    intro k
    induction k with
    | zero => rfl
    | succ k ih => rw [List.replicate_succ]; show [0] ++ Lib.repeatL [0] k = _; rw [ih]; rfl
  unfold zerosT
  rw [h]
set_option maxHeartbeats 2000000 in
theorem rputb_bad (x : Im) (hx : ImOk x) (h : rightB x = false) (w : World) : Calls Tryz.prog 26 #[iagg x] w fun e w' => e = .returned (.tuple #[.string ⟨#[]⟩, .int .i64 1]) ∧ Below w.heap.size w w' := by
  obtain ⟨b, v, d⟩ := x
  have h1 := hx.b
  have h3 := hx.d
  dsimp only at h1 h3
  unfold rightB at h
  unfold iagg
  dsimp only at h ⊢
  obtain ⟨s, hs⟩ : ∃ s, d.size = s := ⟨_, rfl⟩
  rw [hs] at h3 h
  have hd := belowNew (belowSame w) (.cells #[.int .i64 b, .int .u64 v, .string d] TIm)
  have HD := Lib.hid hd
  clear hx hd
  by_cases b1 : b < 0
  · have c1 : decide (b < 0) = true := by simpa using b1
    clear h b1
    go_enter Tryz.func26, Tryz.ntmps26
    go_wp2_with fail
    go_ret2
    exact ⟨rfl, HD.out⟩
  have c1 : decide (b < 0) = false := by simpa using b1
  by_cases b2 : 4096 ≤ b
  · have c2 : decide (4096 ≤ b) = true := by simpa using b2
    clear h b1 b2
    go_enter Tryz.func26, Tryz.ntmps26
    go_wp2_with fail
    go_ret2
    exact ⟨rfl, HD.out⟩
  have c2 : decide (4096 ≤ b) = false := by simpa using b2
  have b3 : ¬ s = 96 := by
    intro e
    rw [e] at h
    simp at h
    omega
  have c3 : ((s : Int) == 96) = false := by simp; omega
  have c3' : ¬ (s : Int) = 96 := by omega
  clear h b1 b2 b3
  go_enter Tryz.func26, Tryz.ntmps26
  go_wp2_with fail
  go_ret2
  exact ⟨rfl, HD.out⟩
theorem sec_text (x : Im) (k : Nat) : strOfNums ((numsOf (halfT x k) ++ lowB x.b 4) ++ lowB x.v 8) = secB x k := by
  rw [List.append_assoc, strOf_app, strOf_nums]
  unfold secB numsT
  rw [List.nil_append]
set_option maxHeartbeats 4000000 in
theorem rputb_ok (x : Im) (hg : Good x) (w : World) : Calls Tryz.prog 26 #[iagg x] w fun e w' => e = .returned (.tuple #[.string (putT x), .int .i64 0]) ∧ Below w.heap.size w w' := by
  have hgb := hg.b
  have hgv := hg.v
  have hgd := hg.d
  have ks := fun k (hk : k < 2) W => refstamp_ok (secB x k) 64 (by omega) (by omega) (by rw [secB_size hg.d hk]; omega) W
  have hps := fun k (hk : k ≤ 2) => putP_size (x := x) hg.d hk
  have hss := fun k (hk : k < 2) => secT_size (x := x) hg.d hk
  have hst := fun k => show putP x (k + 1) = putP x k ++ secT x k from rfl
  have htx := fun k => sec_text x k
  have hhs := fun k (hk : k < 2) => halfT_size (x := x) hg.d hk
  have hsl : ∀ k : Nat, k < 2 → ∀ w : World, (Instr.slice 9 (.string x.d) (some (.int .i64 (48 * (k : Int)))) (some (.int .i64 (48 * (k : Int) + 48))) none).run Tryz.prog w = .ok (.string (halfT x k)) w := fun k hk w => by
    rw [run_slice_string (P := Tryz.prog) w _ x.d .i64 .i64 (48 * (k : Int)) (48 * (k : Int) + 48) Tryz.underlying9 (by omega) (by omega) (by rw [hg.d]; omega)]
    rw [show (48 * (k : Int)).toNat = k * 48 by omega, show (48 * (k : Int) + 48).toNat = (k + 1) * 48 by omega]
    rfl
  rw [← putP_two]
  have hT : ∀ k, secT x k = stampT (secB x k) 64 := fun k => rfl
  simp only [← hT] at ks
  generalize putP x = PP at *
  have KS := Lib.hid ks
  have HPS := Lib.hid hps
  have HSS := Lib.hid hss
  have HST := Lib.hid hst
  have HTX := Lib.hid htx
  have HHS := Lib.hid hhs
  have HSL := Lib.hid hsl
  have HGB := Lib.hid hgb
  have HGV := Lib.hid hgv
  have wb : IntKind.u64.wrap x.b = x.b := IntWalk.u64_in _ (by omega)
  have hp0 : PP 0 = ⟨#[]⟩ := by
    have := hps 0 (by omega)
    have h0 : (PP 0).data.size = 0 := this
    cases hh : PP 0 with
    | mk d => rw [hh] at h0; congr 1; exact Array.eq_empty_of_size_eq_zero h0
  have HP0 := Lib.hid hp0
  have c1 : decide (x.b < 0) = false := by simp; omega
  have c2 : decide (4096 ≤ x.b) = false := by simp; omega
  have c3 : (x.d.size : Int) = 96 := by omega
  have hbn := Blk.new w TIm (icells x)
  have hb0 := belowNew (belowSame w) (.cells (icells x) TIm)
  obtain ⟨W0, hW0⟩ : ∃ W0, w.alloc (.cells (icells x) TIm) = W0 := ⟨_, rfl⟩
  rw [hW0] at hbn hb0
  obtain ⟨xi, hxi⟩ : ∃ i, w.heap.size = i := ⟨_, rfl⟩
  rw [hxi] at hbn
  have a0 : W0.cell? ⟨xi, 0, none⟩ = some (.int .i64 x.b) := hbn.cell 0
  have a2 : W0.cell? ⟨xi, 2, none⟩ = some (.string x.d) := hbn.cell 2
  have HBN := Lib.hid hbn
  have HB0 := Lib.hid hb0
  have HW0 := Lib.hid (show w.alloc (.cells #[.int .i64 x.b, .int .u64 x.v, .string x.d] TIm) = W0 from hW0)
  have HXI := Lib.hid hxi
  unfold iagg
  clear ks hps hss hst htx hhs hsl hg hp0 hT hbn hb0 hW0 hxi hgb hgv hgd
  go_enter Tryz.func26, Tryz.ntmps26
  go_upto_region 1 with fail
  rw [HW0.out, HXI.out]
  go_wp2_with fail
  go_loopw [4, 5] (fun o i wr => ∃ k : Nat, k ≤ 2 ∧ i = .int .i64 (k : Int) ∧ o = .string (PP k) ∧ Hid (Blk wr xi TIm (icells x)) ∧ Hid (Below w.heap.size w wr)) (fun _ i _ => 2 - (intOf i).toNat)
  case atStart => exact ⟨0, by omega, rfl, by rw [HP0.out], HBN, HB0⟩
  case round =>
    obtain ⟨k, hk, rfl, rfl, HK, BK⟩ := hrel
    clear a0 a2
    by_cases hlt : k < 2
    · have kk := fun W => KS.out k hlt W
      have z1 := HPS.out k (by omega)
      have z2 := HSS.out k hlt
      have n1 : decide ((k : Int) < 2) = true := by simp; omega
      have e1 : IntKind.i64.wrap ((k : Int) + 1) = (k : Int) + 1 := IntWalk.i64_in _ (by omega)
      have e2 : IntKind.i64.wrap (48 * (k : Int)) = 48 * (k : Int) := IntWalk.i64_in _ (by omega)
      have e3 : IntKind.i64.wrap (48 * (k : Int) + 48) = 48 * (k : Int) + 48 := IntWalk.i64_in _ (by omega)
      have hz2 : ¬ 9223372036854775807 < (PP k).size + (secT x k).size := by omega
      have sl := HSL.out k hlt
      have hvz := HHS.out k hlt
      have htx := HTX.out k
      obtain ⟨V, hV⟩ : ∃ V, halfT x k = V := ⟨_, rfl⟩
      rw [hV] at sl hvz htx
      obtain ⟨SB, hSB⟩ : ∃ S, secB x k = S := ⟨_, rfl⟩
      rw [hSB] at kk htx
      have hs := HST.out k
      obtain ⟨SS, hSS⟩ : ∃ S, secT x k = S := ⟨_, rfl⟩
      rw [hSS] at kk z2 hz2 hs
      have HS := Lib.hid hs
      have HTXX := Lib.hid htx
      have bk := HK.out
      have y0 : wr.cell? ⟨xi, 0, none⟩ = some (.int .i64 x.b) := bk.cell 0
      have y2 : wr.cell? ⟨xi, 2, none⟩ = some (.string x.d) := bk.cell 2
      have C0 := Lib.hid y0
      have C1 : Hid (wr.cell? ⟨xi, 1, none⟩ = some (.int .u64 x.v)) := Lib.hid (bk.cell 1)
      have cv1 := fun W => Lib.run_convert_string_bytes (P := Tryz.prog) W 9 77 5 V Tryz.underlying9 Tryz.underlying77 Tryz.underlying5
      have hw := rwm_new wr V (by omega)
      rw [hvz] at hw
      have hlt2 := bk.lt
      have hsw : (Lib.bytesWorld wr 5 V).heap.size = wr.heap.size + 1 := Lib.bytesWorld_size _ _ _
      have HVZ := Lib.hid hvz
      clear z1 z2 hs htx hV hSB hSS bk
      go_upto_region 8 with fail
      obtain ⟨W2, hW2⟩ : ∃ W2, ((Lib.bytesWorld wr 5 V).alloc (.cells #[.slice (some ⟨wr.heap.size, 0, none⟩) 48 (grownCap wr 48 0 5), .int .i64 0] TRWr)) = W2 := ⟨_, rfl⟩
      rw [hW2] at hw ⊢
      try rw [hsw]
      obtain ⟨g, hgg⟩ : ∃ g, wr.heap.size + 1 = g := ⟨_, rfl⟩
      rw [hgg] at hw
      try rw [hgg]
      have hw0 : RWg wr wr.heap.size g (numsOf V) W2 := .inr ⟨_, _, hw⟩
      have s0 := hw0.cell hlt2 C0.out
      have k1 := rwgnum_4 hw0 (by rw [numsOf_len, HVZ.out]; decide) x.b HGB.out.1 (by have := HGB.out; omega)
      have HLT := Lib.hid hlt2
      clear hw hw0 hW2 hsw hgg cv1 hlt2
      go_wp2_with (first
        | (go_at_call 43; ((with_reducible refine k1.mono ?_); rintro e w3 ⟨rfl, h3⟩); have s1 := h3.cell HLT.out C1.out; have k2 := rwgnum_8 h3 (by rw [List.length_append, numsOf_len, HVZ.out, lowB_len]; decide) x.v HGV.out.1 HGV.out.2; clear k1 h3)
        | (go_at_call 43; ((with_reducible refine k2.mono ?_); rintro e w4 ⟨rfl, h4⟩); obtain ⟨b7, c7, y7, cv7⟩ := h4.str 60 (by rw [List.length_append, List.length_append, numsOf_len, HVZ.out, lowB_len, lowB_len]) (by decide); rw [HTXX.out] at cv7; have H4 := Lib.hid h4.bel; clear k2 h4)
        | (go_at_call 44; refine (kk _).mono ?_; rintro e w5 ⟨rfl, hb5⟩; have hb6 := belowThen H4.out hb5; have HN5 := Lib.hid (HK.out.below hb6 HK.out.lt); have B5 := Lib.hid (belowThen BK.out hb6); clear hb5 hb6))
      go_roundw
      case rel => exact ⟨k + 1, by omega, by go_num, by rw [HS.out], HN5, B5⟩
      case measure => simp [intOf]; omega
    · obtain rfl : k = 2 := by omega
      go_wp2
      go_ret2
      exact ⟨rfl, BK.out⟩
end Go.Proofs.YtcbhdggjcelmaaaGreat.BK

/- The document's own disk: at, Read. On and not armed. No condition. -/
namespace Go.Proofs.YtcbhdggjcelmaaaGreat.RD
set_option maxRecDepth 100000
open Go.RowKit Go.Proofs.YtcbhdggjcelmaaaGreat.DK Go.Proofs.YtcbhdggjcelmaaaGreat.BK Go.Proofs.YtcbhdggjcelmaaaGreat.WI
set_option linter.unusedVariables false
set_option linter.unusedSimpArgs false

/-- What a sector has, of the first k writes. -/
def ratUp (L : List Rw) (q : Int) : Nat → ByteArray
  | 0 => zsec
  | k + 1 => match L[k]? with
    | some x => if x.a = q then x.d else ratUp L q k
    | none => ratUp L q k
section
variable {w w' w0 W W' : World} {B r : Nat} {R : Rk}
set_option maxHeartbeats 2000000 in
theorem rat_any (h : RdAt w B r R) (q : Int) (hN : R.L.length ≤ 1000000) : Calls Tryz.prog 60 #[.pointer (some ⟨r, 0, none⟩), .int .i64 q, .bool false] w fun e w' => e = .returned (.string (ratUp R.L q R.L.length)) ∧ Below w.heap.size w w' := by
  obtain ⟨a, c, hb, ho, hr⟩ := h
  have c1 : w.cell? ⟨r, 1, none⟩ = some (.slice a R.L.length c) := hb.cell 1
  have hmk : ∀ W : World, (Instr.makeSlice 77 (.int .i64 64) (.int .i64 64)).run Tryz.prog W = .ok (.slice (some ⟨W.heap.size, 0, none⟩) 64 64) (W.alloc (.cells (DK.zeroCells 64) 5)) := DK.zeros_make 64 (by omega)
  have hcv := DK.zeros_text
  generalize DK.zeroCells 64 = ZC at *
  obtain ⟨len, hlen⟩ : ∃ len, R.L.length = len := ⟨_, rfl⟩
  have HO := Lib.hid ho
  rw [hlen] at c1 hN ⊢
  have HLEN := Lib.hid hlen
  have e0 : IntKind.i64.wrap ((len : Int) - 1) = (len : Int) - 1 := IntWalk.i64_in _ (by omega)
  obtain ⟨T, hT⟩ : ∃ T, ratUp R.L q len = T := ⟨_, rfl⟩
  rw [hT]
  have HS := Lib.hid (show ratUp R.L q ((len : Int) - 1 + 1).toNat = T by rw [← hT]; congr 1; omega)
  clear hb ho hlen hT
  go_enter Tryz.func60, Tryz.ntmps60
  go_wp2_with fail
  go_loopw [7] (fun i wr => ∃ j : Int, i = .int .i64 j ∧ -1 ≤ j ∧ j < (len : Int) ∧ Hid (ratUp R.L q (j + 1).toNat = T) ∧ wr = w) (fun i _ => (intOf i + 1).toNat)
  case atStart => exact ⟨(len : Int) - 1, rfl, by omega, by omega, HS, rfl⟩
  case round =>
    obtain ⟨j, rfl, hj1, hj2, HJ, rfl⟩ := hrel
    clear HS
    by_cases h0 : 0 ≤ j
    · obtain ⟨k, rfl⟩ := Int.eq_ofNat_of_zero_le h0
      have hlt : k < len := by omega
      obtain ⟨x, hx⟩ : ∃ x, R.L[k]? = some x := ⟨_, List.getElem?_eq_getElem (by rw [HLEN.out]; exact hlt)⟩
      have o3 := HO.out
      obtain ⟨b, cap, hv, _, hblt⟩ := o3.form (by rw [HLEN.out]; omega)
      injection hv with hv1 hv2 hv3
      subst hv1
      have z1 : wr.cell? ⟨b, k * 4 + 1, none⟩ = some (.int .i64 x.a) := by
        have h1 := o3.cellAt (k * 4 + 1) (by rw [HLEN.out]; omega)
        rw [flat_at _ k x hx 1 (by omega)] at h1
        exact h1
      have z2 : wr.cell? ⟨b, k * 4 + 2, none⟩ = some (.string x.d) := by
        have h1 := o3.cellAt (k * 4 + 2) (by rw [HLEN.out]; omega)
        rw [flat_at _ k x hx 2 (by omega)] at h1
        exact h1
      have hcc : len ≤ c := by
        rcases o3.2 with ⟨h', _⟩ | ⟨g', cap', cur, h', _, _, hnc, _⟩
        · simp at h'
        · injection h' with _ _ h3; rw [h3, ← HLEN.out]; exact hnc
      have hU : ratUp R.L q (k + 1) = if x.a = q then x.d else ratUp R.L q k := by rw [ratUp, hx]
      have HJ' := HJ.out
      rw [show ((k : Int) + 1).toNat = k + 1 by omega, hU] at HJ'
      have d1 : decide (0 ≤ (k : Int)) = true := by simp
      have e1 : IntKind.i64.wrap ((k : Int) - 1) = (k : Int) - 1 := IntWalk.i64_in _ (by omega)
      obtain ⟨xa, hxa⟩ : ∃ v, x.a = v := ⟨_, rfl⟩
      obtain ⟨xd, hxd⟩ : ∃ v, x.d = v := ⟨_, rfl⟩
      rw [hxa, hxd] at HJ'
      rw [hxa] at z1
      rw [hxd] at z2
      by_cases he : xa = q
      · rw [if_pos he] at HJ'
        have HJ2 := Lib.hid HJ'
        clear HJ HJ' hU hx hxa hxd o3 hv2 hv3
        subst he
        go_wp2_with fail
        go_ret
        exact ⟨by rw [← HJ2.out]; rfl, belowSame _⟩
      · rw [if_neg he] at HJ'
        have HJ2 := Lib.hid (show ratUp R.L q ((k : Int) - 1 + 1).toNat = T by rw [← HJ']; congr 1; omega)
        have m1 : (xa == q) = false := by simpa using he
        clear HJ HJ' hU hx hxa hxd o3 hv2 hv3
        go_wp2_with fail
        go_roundw
        case rel => exact ⟨(k : Int) - 1, rfl, by omega, by omega, HJ2, trivial⟩
        case measure => simp [intOf]
    · obtain rfl : j = -1 := by omega
      have hT : T = zsec := by rw [← HJ.out]; rfl
      have HT := Lib.hid hT
      clear hT HJ
      go_wp2_with fail
      go_ret
      exact ⟨by rw [HT.out]; rfl, belowNew (belowSame _) _⟩
theorem zsec_size : zsec.size = 64 := by decide +kernel
theorem ratUp_size (L : List Rw) (hs : ∀ x ∈ L, x.d.size = 64) (q : Int) : ∀ k, (ratUp L q k).size = 64
  | 0 => zsec_size
  | k + 1 => by
    unfold ratUp
    cases hx : L[k]? with
    | none => exact ratUp_size L hs q k
    | some x =>
      show ByteArray.size (if x.a = q then x.d else ratUp L q k) = 64
      split
      · exact hs x (List.mem_of_getElem? hx)
      · exact ratUp_size L hs q k
def rreadT (L : List Rw) (q : Int) : Nat → ByteArray
  | 0 => ⟨#[]⟩
  | k + 1 => rreadT L q k ++ ratUp L (q + (k : Int)) L.length
theorem rreadT_size (L : List Rw) (hs : ∀ x ∈ L, x.d.size = 64) (q : Int) (k : Nat) : (rreadT L q k).size = k * 64 := by
  induction k with
  | zero => rfl
  | succ k ih => rw [rreadT, ByteArray.size_append, ih, ratUp_size L hs]; omega
theorem strCells_app (a b : ByteArray) : Lib.strCells (a ++ b) = Lib.strCells a ++ Lib.strCells b := by
  unfold Lib.strCells
  rw [ByteArray.data_append, Array.toList_append, List.map_append]
theorem cells_nums (s : ByteArray) : Lib.strCells s = (numsOf s).map byteV := by
  unfold Lib.strCells numsOf
  rw [List.map_map]
  rfl
theorem own_text {B n c : Nat} {a : Option Addr} {s : ByteArray} (ho : w.ownsRow B 5 1 (.slice a n c) n (Lib.strCells s)) (hl : 0 < n) (hn : s.size = n) : (convert 77 9 (.slice a n c)).run Tryz.prog w = .ok (.string s) w := by
  rw [cells_nums] at ho
  have hnl : (numsOf s).length = n := (numsOf_len s).trans hn
  obtain ⟨b, x, rfl, _, _, _⟩ := ownCell ho hl
  have := run_convert_bytes_arg (P := Tryz.prog) w 77 5 Tryz.underlying77 Tryz.underlying5 b 0 n c (numsOf s) hnl (fun i hi => by
    obtain ⟨b', x', e1, e2, e3, _⟩ := ownCell ho hi
    injection e1 with e1
    injection e1 with e1
    subst e1
    have hi' : i < (numsOf s).length := by rw [hnl]; exact hi
    rw [Nat.zero_add, e3]
    rw [List.getElem?_map, List.getElem?_eq_getElem hi'] at e2
    injection e2 with e2
    rw [← e2]
    simp [byteV, List.getElem?_eq_getElem hi']) 9 Tryz.underlying9
  rwa [strOf_nums] at this
set_option maxHeartbeats 4000000 in
theorem rread_ok (h : RdAt w B r R) (q : Int) (n : Nat) (hn : 1 ≤ n ∧ n ≤ 400) (hq : 0 ≤ q ∧ q + (n : Int) ≤ R.room) (hR : R.room ≤ 1000000) (hN : R.L.length ≤ 1000000) (hs : ∀ x ∈ R.L, x.d.size = 64) :
    Calls Tryz.prog 29 #[.pointer (some ⟨r, 0, none⟩), .int .i64 q, .int .i64 (n : Int)] w fun e w' => e = .returned (.tuple #[.string (rreadT R.L q n), .int .i64 0]) ∧ Below w.heap.size w w' := by
  obtain ⟨i0, hi, hz0, hz1, hz2⟩ := info_parts infByte
  have c2 : w.cell? ⟨r, 2, none⟩ = some (.bool false) := by obtain ⟨a, c, hb, _, _⟩ := h; exact hb.cell 2
  have c0 : w.cell? ⟨r, 0, none⟩ = some (.int .i64 R.room) := by obtain ⟨a, c, hb, _, _⟩ := h; exact hb.cell 0
  obtain ⟨room, hroom⟩ : ∃ v, R.room = v := ⟨_, rfl⟩
  rw [hroom] at c0 hq hR
  have n1 : decide ((n : Int) < 1) = false := by simp; omega
  have n2 : decide ((400 : Int) < (n : Int)) = false := by simp; omega
  have n3 : decide (q < 0) = false := by simp; omega
  have e1 : IntKind.i64.wrap (room - (n : Int)) = room - (n : Int) := IntWalk.i64_in _ (by omega)
  have n4 : decide (room - (n : Int) < q) = false := by simp; omega
  have ka := fun (W : World) (h : RdAt W B r R) (k : Int) => rat_any h k hN
  have hS : Hid (RdAt w B r R) := Lib.hid h
  have HSZ := Lib.hid hs
  clear h hroom hN hs
  go_enter Tryz.func29, Tryz.ntmps29
  go_wp2_with fail
  go_loopw [8, 9] (fun v i wr => ∃ (k : Nat) (a : Option Addr) (c : Nat), k ≤ n ∧ i = .int .i64 (k : Int) ∧ v = .slice a (k * 64) c ∧ Hid (Below w.heap.size w wr) ∧ Hid (wr.ownsRow w.heap.size 5 1 (.slice a (k * 64) c) (k * 64) (Lib.strCells (rreadT R.L q k)))) (fun _ i _ => n - (intOf i).toNat)
  case atStart => exact ⟨0, none, 0, by omega, rfl, rfl, Lib.hid (belowSame _), Lib.hid (World.ownsRow_nil _ _ _ _)⟩
  case round =>
    obtain ⟨k, a, c, hk, rfl, rfl, HB, HO⟩ := hrel
    by_cases hlt : k < n
    · have d1 : decide ((k : Int) < (n : Int)) = true := by simp; omega
      have e2 : IntKind.i64.wrap (q + (k : Int)) = q + (k : Int) := IntWalk.i64_in _ (by omega)
      have e3 : IntKind.i64.wrap ((k : Int) + 1) = (k : Int) + 1 := IntWalk.i64_in _ (by omega)
      have kc := ka _ (hS.out.old HB.out) (q + (k : Int))
      have hT1 : rreadT R.L q (k + 1) = rreadT R.L q k ++ ratUp R.L (q + (k : Int)) R.L.length := rfl
      have hS1 := ratUp_size R.L HSZ.out (q + (k : Int)) R.L.length
      obtain ⟨T, hT⟩ : ∃ T, ratUp R.L (q + (k : Int)) R.L.length = T := ⟨_, rfl⟩
      rw [hT] at kc hT1 hS1
      have hfin : ∀ w2, Below wr.heap.size wr w2 → ∀ (v : Value) (w3 : World), w3.ownsRow w.heap.size 5 1 v (k * 64 + T.size) (Lib.strCells (rreadT R.L q k) ++ Lib.strCells T) → w2.grownBy w3 (Value.slice a (k * 64) c).ownBlock → ∃ a' c', v = .slice a' ((k + 1) * 64) c' ∧ Hid (Below w.heap.size w w3) ∧ Hid (w3.ownsRow w.heap.size 5 1 (.slice a' ((k + 1) * 64) c') ((k + 1) * 64) (Lib.strCells (rreadT R.L q (k + 1)))) := by
        intro w2 hb2 v w3 h3 hg
        rw [hS1, show k * 64 + 64 = (k + 1) * 64 by omega, ← strCells_app, ← hT1] at h3
        obtain ⟨b, c', hv, _, _⟩ := h3.form (by omega)
        subst hv
        have o2 : w2.ownsRow w.heap.size 5 1 (.slice a (k * 64) c) (k * 64) (Lib.strCells (rreadT R.L q k)) := own_keeps HO.out (Keeps.of_below hb2 (fun _ => False)) (fun _ _ h => h)
        have hB2 := (belowThen HB.out hb2)
        have hB3 : Below w.heap.size w w3 := hB2.grown hg hB2.size (fun g hg' => (o2.lt g hg').1)
        exact ⟨_, c', rfl, Lib.hid hB3, Lib.hid h3⟩
      have HF := Lib.hid hfin
      have HSS := Lib.hid hS1
      clear hfin hT hT1 hS1
      go_wp2_with (first
        | (go_at_call 60; refine kc.mono ?_; rintro e w2 ⟨rfl, hb2⟩; have HB2 := Lib.hid hb2; clear hb2)
        | (at_builtin; refine Lib.wpList_append_own_string _ rfl _ _ 77 9 rfl w.heap.size 5 i0 Tryz.underlying77 Tryz.underlying9 hi hz0 hz1 hz2 _ _ _ rfl (own_keeps HO.out (Keeps.of_below HB2.out (fun _ => False)) (fun _ _ h => h)) T rfl (by have := HSS.out; unfold maxLen; omega) (by have := HSS.out; omega) (belowThen HB.out HB2.out).size ?_; intro v' w3 hown' hgrow hnil; obtain ⟨a3, c3, rfl, H3, H4⟩ := HF.out _ HB2.out v' w3 hown' hgrow; clear hown' hgrow hnil HF))
      go_roundw
      case rel => exact ⟨k + 1, a3, c3, by omega, by go_num, rfl, H3, H4⟩
      case measure => simp [intOf]; omega
    · obtain rfl : k = n := by omega
      have d1 : decide ((k : Int) < (k : Int)) = false := by simp
      have hcv := own_text HO.out (by omega) (rreadT_size R.L HSZ.out q k)
      go_wp2_with fail
      go_ret2
      exact ⟨rfl, HB.out⟩
end
end Go.Proofs.YtcbhdggjcelmaaaGreat.RD

/- The document's own disk: Write, what lies beside it kept (printed by gen_rd11.py out of XRd3). On and not armed. No condition. -/
namespace Go.Proofs.YtcbhdggjcelmaaaGreat.RD
set_option maxRecDepth 100000
open Go.RowKit Go.Proofs.YtcbhdggjcelmaaaGreat.DK
set_option linter.unusedVariables false
set_option linter.unusedSimpArgs false

/-- The document's disk; what a call turns of it lies in S. -/
def RdS (w : World) (B r : Nat) (S : Nat → Prop) (R : Rk) : Prop :=
  ∃ a c, Blk w r TRD (rcells R (.slice a R.L.length c)) ∧ w.ownsRow B TRW 4 (.slice a R.L.length c) R.L.length (R.L.flatMap rwval) ∧ B ≤ r ∧ S r ∧ (∀ k, (Value.slice a 0 0).ownBlock = some k → S k)
def RdOutS (w00 : World) (B r : Nat) (S : Nat → Prop) (R : Rk) (w : World) : Prop := RdS w B r S R ∧ Keeps S w00 w
theorem RdS.at_ {w : World} {B r : Nat} {S : Nat → Prop} {R : Rk} (h : RdS w B r S R) : RdAt w B r R := by obtain ⟨a, c, h1, h2, h3, _, _⟩ := h; exact ⟨a, c, h1, h2, h3⟩
theorem RdS.r_ {w : World} {B r : Nat} {S : Nat → Prop} {R : Rk} (h : RdS w B r S R) : S r := by obtain ⟨a, c, _, _, _, h4, _⟩ := h; exact h4
/-- The least such S. -/
theorem RdAt.parts {w : World} {B r : Nat} {R : Rk} (h : RdAt w B r R) : ∃ b : Option Nat, (∀ k, b = some k → B ≤ k ∧ k < w.heap.size) ∧ RdS w B r (fun k => k = r ∨ b = some k ∨ w.heap.size ≤ k) R := by
  obtain ⟨a, c, h1, h2, h3⟩ := h
  exact ⟨(Value.slice a 0 0).ownBlock, fun k hk => h2.lt k (by rw [own_blk]; exact hk), a, c, h1, h2, h3, .inl rfl, fun k hk => .inr (.inl hk)⟩
section
variable {w w' w0 W W' : World} {B r : Nat} {R : Rk}
set_option maxHeartbeats 4000000 in
theorem rwrites_core {S : Nat → Prop} (hs0 : RdS w B r S R) (w00 : World) (h00 : Keeps S w00 w) (hS0 : ∀ k, w00.heap.size ≤ k → S k) (n e q : Int) (b : ByteArray) (c : Nat) (hb : b.size = c * 64) (hc : 1 ≤ c ∧ c ≤ 16) (hn : inNode n = true) (hm : rmayE R n e = 0) (hq : 0 ≤ q ∧ q + (c : Int) ≤ R.room) (hR : R.room ≤ 1000000) (hN : R.L.length ≤ 1000000) :
    Calls Tryz.prog 19 #[.pointer (some ⟨r, 0, none⟩), .int .i64 n, .int .u64 e, .int .i64 q, .string b] w fun e' w' => e' = .returned (.int .i64 0) ∧ RdOutS w00 B r S (moreK R n q b c) w' := by
  obtain ⟨i0, hi, hz0, hz1, hz2⟩ := info_parts infRW
  have h := hs0.at_
  have hSr := hs0.r_
  have kn := fun W => rnode_any n W
  have km := rmay_any h n e
  have ks := rspend_any h
  rw [hn] at kn
  rw [hm] at km
  have c2 : w.cell? ⟨r, 2, none⟩ = some (.bool false) := by obtain ⟨a, c, hb, _, _⟩ := h; exact hb.cell 2
  have c0 : w.cell? ⟨r, 0, none⟩ = some (.int .i64 R.room) := by obtain ⟨a, c, hb, _, _⟩ := h; exact hb.cell 0
  have hrB := h.ge
  have hqd : (b.size : Int).tdiv 64 = (c : Int) := by rw [Int.tdiv_eq_ediv_of_nonneg (by omega)]; omega
  have hmd : (b.size : Int).tmod 64 = 0 := by rw [Int.tmod_eq_emod_of_nonneg (by omega)]; omega
  have n1 : decide ((c : Int) < 1) = false := by simp; omega
  have n2 : decide ((16 : Int) < (c : Int)) = false := by simp; omega
  have n3 : decide (q < 0) = false := by simp; omega
  obtain ⟨room, hroom⟩ : ∃ v, R.room = v := ⟨_, rfl⟩
  rw [hroom] at c0 hq hR
  have e1 : IntKind.i64.wrap (room - (c : Int)) = room - (c : Int) := IntWalk.i64_in _ (by omega)
  have n4 : decide (room - (c : Int) < q) = false := by simp; omega
  have hS : Hid (RdOutS w00 B r S (moreK R n q b 0) w) := Lib.hid ⟨by unfold moreK rowsW; rw [List.append_nil]; exact hs0, h00⟩
  obtain ⟨len, hlen⟩ : ∃ len, R.L.length = len := ⟨_, rfl⟩
  rw [hlen] at hN
  have HLEN := Lib.hid hlen
  clear h hs0 h00 hn hm hroom hlen
  go_enter Tryz.func19, Tryz.ntmps19
  go_wp2_with (first
    | (go_at_call 45; refine (kn _).mono ?_; rintro e w1 ⟨rfl, rfl⟩)
    | (go_at_call 47; refine km.mono ?_; rintro e w1 ⟨rfl, rfl⟩)
    | (go_at_call 46; refine ks.mono ?_; rintro e w1 ⟨rfl, rfl⟩))
  go_loopw [13] (fun i wr => ∃ k : Nat, k ≤ c ∧ i = .int .i64 (k : Int) ∧ Hid (RdOutS w00 B r S (moreK R n q b k) wr)) (fun i _ => c - (intOf i).toNat)
  case atStart => exact ⟨0, by omega, rfl, hS⟩
  case round =>
    obtain ⟨k, hk, rfl, HR⟩ := hrel
    clear hS
    by_cases hlt : k < c
    · obtain ⟨⟨a3, c3, b3, o3, _, _, s3⟩, k3⟩ := HR.out
      have hkl : (moreK R n q b k).L.length = len + k := by unfold moreK; rw [List.length_append, rowsW_len, HLEN.out]
      rw [hkl] at b3 o3
      have y1 : wr.cell? ⟨r, 1, none⟩ = some (.slice a3 (len + k) c3) := b3.cell 1
      have y1a : ∀ o, (wr.alloc o).cell? ⟨r, 1, none⟩ = some (.slice a3 (len + k) c3) := fun o => (b3.alloc o).cell 1
      have d1 : decide ((k : Int) < (c : Int)) = true := by simp; omega
      have e2 : IntKind.i64.wrap (q + (k : Int)) = q + (k : Int) := IntWalk.i64_in _ (by omega)
      have e3 : IntKind.i64.wrap (64 * (k : Int)) = 64 * (k : Int) := IntWalk.i64_in _ (by omega)
      have e4 : IntKind.i64.wrap (64 * (k : Int) + 64) = 64 * (k : Int) + 64 := IntWalk.i64_in _ (by omega)
      have e5 : IntKind.i64.wrap ((k : Int) + 1) = (k : Int) + 1 := IntWalk.i64_in _ (by omega)
      have hsl : ∀ w : World, (Instr.slice 9 (.string b) (some (.int .i64 (64 * (k : Int)))) (some (.int .i64 (64 * (k : Int) + 64))) none).run Tryz.prog w = .ok (.string (sect b k)) w := fun w => by
        rw [run_slice_string (P := Tryz.prog) w _ b .i64 .i64 (64 * (k : Int)) (64 * (k : Int) + 64) Tryz.underlying9 (by omega) (by omega) (by omega)]
        rw [show (64 * (k : Int)).toNat = k * 64 by omega, show (64 * (k : Int) + 64).toNat = (k + 1) * 64 by omega]
        rfl
      obtain ⟨TT, hSS⟩ : ∃ TT, sect b k = TT := ⟨_, rfl⟩
      rw [hSS] at hsl
      have r2 : (wr.drew.alloc (.cells #[.int .i64 n, .int .i64 (q + (k : Int)), .string TT, .bool false] TRW)).ownsRow B TRW 4 (.slice a3 (len + k) c3) (len + k) ((moreK R n q b k).L.flatMap rwval) := own_keeps o3 (((Keeps.refl (fun _ => False) wr).drew).alloc _) (fun _ _ h => h)
      have hlA : Lies (wr.drew.alloc (.cells #[.int .i64 n, .int .i64 (q + (k : Int)), .string TT, .bool false] TRW)) 4 (some ⟨wr.heap.size, 0, none⟩) 1 (rwval ⟨n, q + (k : Int), TT, false⟩) := by
        have := Lies.of_blk (Blk.new wr.drew TRW #[.int .i64 n, .int .i64 (q + (k : Int)), .string TT, .bool false])
        exact ⟨rfl, fun _ => this.2 (by simp)⟩
      have hBw : B ≤ (wr.drew.alloc (.cells #[.int .i64 n, .int .i64 (q + (k : Int)), .string TT, .bool false] TRW)).heap.size := by
        have h1 : (wr.drew.alloc (.cells #[.int .i64 n, .int .i64 (q + (k : Int)), .string TT, .bool false] TRW)).heap.size = wr.heap.size + 1 := by simp
        have := b3.lt; omega
      have hmx : len + k + 1 ≤ maxLen := by unfold maxLen; omega
      have hfin : ∀ (w3 : World) (a4 : Option Addr) (c4 : Nat), w3.ownsRow B TRW 4 (.slice a4 (len + k + 1) c4) (len + k + 1) ((moreK R n q b k).L.flatMap rwval ++ rwval ⟨n, q + (k : Int), TT, false⟩) →
          (wr.drew.alloc (.cells #[.int .i64 n, .int .i64 (q + (k : Int)), .string TT, .bool false] TRW)).grownBy w3 (Value.slice a3 0 0).ownBlock →
          ((Value.slice a4 0 0).ownBlock = (Value.slice a3 0 0).ownBlock ∨ (Value.slice a4 0 0).ownBlock = some (wr.drew.alloc (.cells #[.int .i64 n, .int .i64 (q + (k : Int)), .string TT, .bool false] TRW)).heap.size) →
          w3.frozen? ⟨r, 1, none⟩ = false ∧ w3.cell? ⟨r, 1, none⟩ = some (.slice a3 (len + k) c3) ∧ RdOutS w00 B r S (moreK R n q b (k + 1)) (w3.setCell ⟨r, 1, none⟩ (.slice a4 (len + k + 1) c4)) := by
        intro w3 a4 c4 ho hg hat
        have hne := own_ne o3 b3 (by decide)
        rw [own_blk] at hne
        have b4 : Blk w3 r TRD (rcells (moreK R n q b k) (.slice a3 (len + k) c3)) := ((b3.drew).alloc _).grown hg (fun e => hne e.symm)
        have hkl2 : (moreK R n q b (k + 1)).L.length = len + k + 1 := by unfold moreK; rw [List.length_append, rowsW_len, HLEN.out]; omega
        have hfl : (moreK R n q b (k + 1)).L.flatMap rwval = (moreK R n q b k).L.flatMap rwval ++ rwval ⟨n, q + (k : Int), TT, false⟩ := by
          unfold moreK
          show (R.L ++ (rowsW n q b k ++ [(⟨n, q + (k : Int), sect b k, false⟩ : Rw)])).flatMap rwval = _
          rw [hSS, ← List.append_assoc, List.flatMap_append (xs := R.L ++ rowsW n q b k)]
          simp
        refine ⟨b4.frozen 1, b4.cell 1, ⟨a4, c4, ?_, ?_, hrB, hSr, ?_⟩, ?_⟩
        · have := b4.set_ 1 (.slice a4 (len + k + 1) c4)
          rw [set_rl] at this
          rw [hkl2]
          exact this
        · rw [hkl2, hfl]
          refine own_keeps ho (keep1 w3 r 1 _) (fun j hj e => ?_)
          have e' : j = r := e
          rw [own_blk, e'] at hj
          rcases hat with h0 | h0
          · rw [h0] at hj; exact hne hj
          · rw [h0] at hj
            injection hj with hj
            have h1 : (wr.drew.alloc (.cells #[.int .i64 n, .int .i64 (q + (k : Int)), .string TT, .bool false] TRW)).heap.size = wr.heap.size + 1 := by simp
            have := b3.lt; omega
        · intro j hj
          rcases hat with h0 | h0
          · rw [h0] at hj; exact s3 j hj
          · rw [h0] at hj
            injection hj with hj
            have h1 : (wr.drew.alloc (.cells #[.int .i64 n, .int .i64 (q + (k : Int)), .string TT, .bool false] TRW)).heap.size = wr.heap.size + 1 := by simp
            have := k3.size
            exact hS0 j (by omega)
        · exact ((((k3.drew).alloc _).grown hg (fun j hj _ => s3 j hj)).setCell (fun _ => hSr) _)
      have HF := Lib.hid hfin
      have O3 := Lib.hid r2
      have L3 := Lib.hid hlA
      clear hfin b3 o3 k3 hkl hSS HR r2 hlA
      go_wp2_with fail
      go_region_law (refine step_append_lie _ rfl (.tmp 71) (.tmp 84) 50 rfl B TRW i0 _ 4 40 Tryz.underlying50 hi hz0 hz1 hz2 rfl (by decide) a3 (len + k) c3 _ (by go_simp) O3.out (some ⟨wr.heap.size, 0, none⟩) 1 1 _ (by go_simp) L3.out (by intro u hu; simp [rwval] at hu; rcases hu with rfl | rfl | rfl | rfl <;> rfl) hmx (by omega) hBw ?_; intro a4 c4 w4 ho4 hg4 hat4; obtain ⟨f6, d6, R4⟩ := HF.out w4 a4 c4 ho4 hg4 hat4; have H4 := Lib.hid R4; clear ho4 hg4 hat4 R4)
      all_goals
        go_wp2_with fail
        go_roundw
        case rel => exact ⟨k + 1, by omega, by go_num, H4⟩
        case measure => simp [intOf]; omega
    · obtain rfl : k = c := by omega
      go_wp2
      go_ret
      exact ⟨rfl, HR.out⟩
/-- Write, what lies beside the disk kept: all that lay and is neither the disk's block nor its row's. -/
theorem rwrite_beside (h : RdAt w B r R) (n e q : Int) (b : ByteArray) (c : Nat) (hb : b.size = c * 64) (hc : 1 ≤ c ∧ c ≤ 16) (hn : inNode n = true) (hm : rmayE R n e = 0) (hq : 0 ≤ q ∧ q + (c : Int) ≤ R.room) (hR : R.room ≤ 1000000) (hN : R.L.length ≤ 1000000) :
    ∃ bk : Option Nat, (∀ k, bk = some k → B ≤ k ∧ k < w.heap.size) ∧
    Calls Tryz.prog 19 #[.pointer (some ⟨r, 0, none⟩), .int .i64 n, .int .u64 e, .int .i64 q, .string b] w fun e' w' => e' = .returned (.int .i64 0) ∧ RdAt w' B r (moreK R n q b c) ∧ Keeps (fun k => k = r ∨ bk = some k ∨ w.heap.size ≤ k) w w' := by
  obtain ⟨bk, h1, h2⟩ := h.parts
  refine ⟨bk, h1, (rwrites_core h2 w (Keeps.refl _ _) (fun k hk => .inr (.inr hk)) n e q b c hb hc hn hm hq hR hN).mono ?_⟩
  rintro e' w' ⟨rfl, h3, h4⟩
  exact ⟨rfl, h3.at_, h4⟩
end
end Go.Proofs.YtcbhdggjcelmaaaGreat.RD

/- The document's own reader: take, Num. No condition. -/
namespace Go.Proofs.YtcbhdggjcelmaaaGreat.WI
set_option maxRecDepth 100000
open Go.RowKit
set_option linter.unusedVariables false
set_option linter.unusedSimpArgs false

abbrev TRR : TypeId := 108
/-- The document's reader in block g has the bytes s to read. -/
def RRd (W : World) (B g : Nat) (s : ByteArray) (w : World) : Prop := Blk w g TRR #[.string s, .int .i64 0] ∧ Below B W w ∧ B ≤ g
theorem rtake_ok {W w : World} {B g : Nat} {s : ByteArray} (h : RRd W B g s w) (n : Nat) (hn : n ≤ s.size) (hs : s.size ≤ 1000000) :
    Calls Tryz.prog 85 #[.pointer (some ⟨g, 0, none⟩), .int .i64 (n : Int)] w fun e w' => e = .returned (.tuple #[.string (s.extract 0 n), .bool true]) ∧ RRd W B g (s.extract n s.size) w' ∧ Keeps (only g) w w' := by
  obtain ⟨hb, hB, hBg⟩ := h
  have c0 : w.cell? ⟨g, 0, none⟩ = some (.string s) := hb.cell 0
  have c1 : w.cell? ⟨g, 1, none⟩ = some (.int .i64 0) := hb.cell 1
  have f0 := hb.frozen 0
  have H2 : Hid (RRd W B g (s.extract n s.size) (w.setCell ⟨g, 0, none⟩ (.string (s.extract n s.size)))) := Lib.hid ⟨hb.set_ 0 _, hB.setCell hBg _, hBg⟩
  have HK := Lib.hid (keep1 w g 0 (.string (s.extract n s.size)))
  have hi : (n : Int) ≤ (s.size : Int) := by omega
  have hi2 : ¬ (s.size : Int) < (n : Int) := by omega
  clear hb hB hBg
  go_enter Tryz.func85, Tryz.ntmps85
  go_wp2
  go_ret2
  exact ⟨rfl, H2.out, HK.out⟩
theorem le_drop (l : List UInt8) (k : Nat) (c : UInt8) (hc : l[k]? = some c) (hl : l.length ≤ 8) :
    IntKind.u64.wrap (IntKind.u64.wrap (leL (l.drop (k + 1)) * 256) + (c.toNat : Int)) = leL (l.drop k) := by
  have hk : k < l.length := (List.getElem?_eq_some_iff.1 hc).1
  have he : l[k] = c := (List.getElem?_eq_some_iff.1 hc).2
  rw [List.drop_eq_getElem_cons hk, he]
  show _ = (c.toNat : Int) + 256 * leL (l.drop (k + 1))
  obtain ⟨m, h1, h2⟩ := leL_lt (l.drop (k + 1))
  rw [List.length_drop] at h2
  have h3 : 256 ^ (l.length - (k + 1)) ≤ 256 ^ 7 := Nat.pow_le_pow_right (by omega) (by omega)
  have h4 : c.toNat < 256 := c.toNat_lt
  rw [show (256 : Nat) ^ 7 = 72057594037927936 from rfl] at h3
  rw [h1, IntWalk.u64_in ((m : Int) * 256) (by omega), IntWalk.u64_in _ (by omega)]
  omega
set_option maxHeartbeats 1600000 in
theorem rrnum_any {W w : World} {B g : Nat} {s : ByteArray} (h : RRd W B g s w) (n : Nat) (hn1 : 1 ≤ n) (hn : n ≤ s.size) (hs : s.size ≤ 1000000) (hn8 : n ≤ 8) :
    Calls Tryz.prog 62 #[.pointer (some ⟨g, 0, none⟩), .int .i64 (n : Int)] w fun e w' => e = .returned (.int .u64 (leL (s.extract 0 n).data.toList)) ∧ RRd W B g (s.extract n s.size) w' ∧ Keeps (only g) w w' := by
  have kt := rtake_ok h n hn hs
  obtain ⟨l, hl⟩ : ∃ l, s.extract 0 n = l := ⟨_, rfl⟩
  have hln : l.size = n := by rw [← hl, ByteArray.size_extract]; omega
  rw [hl] at kt
  rw [hl]
  have HLL : Hid (l.data.toList.length = n) := Lib.hid (by rw [Array.length_toList]; exact hln)
  have n1 : decide ((n : Int) < 1) = false := by simp; omega
  have n2 : decide ((8 : Int) < (n : Int)) = false := by simp; omega
  have e1 : IntKind.i64.wrap ((n : Int) - 1) = (n : Int) - 1 := IntWalk.i64_in _ (by omega)
  have HLS := Lib.hid hln
  clear h hl hln
  go_enter Tryz.func62, Tryz.ntmps62
  go_wp2_with (go_at_call 85; refine kt.mono ?_; rintro e w1 ⟨rfl, h1, hk1⟩; have H1 := Lib.hid h1; have HK1 := Lib.hid hk1; clear h1 hk1)
  go_loopw [7, 8] (fun v i wr => ∃ k : Nat, k ≤ n ∧ i = .int .i64 ((k : Int) - 1) ∧ v = .int .u64 (leL (l.data.toList.drop k)) ∧ wr = w1) (fun _ i _ => (intOf i + 1).toNat)
  case atStart => exact ⟨n, Nat.le_refl _, rfl, by rw [List.drop_of_length_le (by rw [HLL.out]; exact Nat.le_refl _)]; rfl, rfl⟩
  case round =>
    obtain ⟨k, hk, rfl, rfl, rfl⟩ := hrel
    clear e1
    rcases Nat.eq_zero_or_pos k with h0 | h0
    · subst h0
      rw [List.drop_zero]
      rw [show (((0 : Nat) : Int) - 1) = -1 from rfl]
      have d1 : decide ((0 : Int) ≤ -1) = false := by decide
      obtain ⟨v, hv⟩ : ∃ v, leL l.data.toList = v := ⟨_, rfl⟩
      rw [hv]
      have HV := Lib.hid hv
      clear hv
      go_wp2
      go_ret
      exact ⟨by rw [HV.out]; rfl, H1.out, HK1.out⟩
    · obtain ⟨j, rfl⟩ : ∃ j, k = j + 1 := ⟨k - 1, by omega⟩
      obtain ⟨c, hc⟩ : ∃ c, l.data.toList[j]? = some c := ⟨_, List.getElem?_eq_getElem (by rw [HLL.out]; omega)⟩
      have hor := le_drop l.data.toList j c hc (by rw [HLL.out]; exact hn8)
      rw [show (((j + 1 : Nat) : Int) - 1) = (j : Int) by omega]
      have d1 : decide ((0 : Int) ≤ (j : Int)) = true := by simp
      have hsz : (l.size : Int) = (n : Int) := by rw [HLS.out]
      have hjn : (j : Int) < (n : Int) := by omega
      have hlj : ∀ h : j < l.size, l[j]'h = c := fun h => by
        have h1 : l.data[j]? = some c := by rw [← Array.getElem?_toList]; exact hc
        have h2 : l.data[j]? = some (l[j]'h) := Array.getElem?_eq_getElem h
        rw [h1] at h2
        injection h2 with h2
        exact h2.symm
      have HLJ := Lib.hid hlj
      have HWC : Hid (IntKind.u64.wrap (c.toNat : Int) = (c.toNat : Int)) := Lib.hid (IntWalk.u64_in _ (by have := c.toNat_lt; omega))
      have e2 : IntKind.i64.wrap ((j : Int) - 1) = (j : Int) - 1 := IntWalk.i64_in _ (by omega)
      obtain ⟨v, hv⟩ : ∃ v, leL (l.data.toList.drop (j + 1)) = v := ⟨_, rfl⟩
      rw [hv] at hor
      rw [hv]
      have HOR := Lib.hid hor
      clear hv hor hc hlj
      go_wp2_with fail
      go_roundw
      case rel => exact ⟨j, by omega, by go_num, by rw [← HOR.out, HLJ.out, HWC.out], trivial⟩
      case measure => simp [intOf]
theorem rrnum_4 {W w : World} {B g : Nat} {s : ByteArray} (h : RRd W B g s w) (hn : 4 ≤ s.size) (hs : s.size ≤ 1000000) :
    Calls Tryz.prog 62 #[.pointer (some ⟨g, 0, none⟩), .int .i64 4] w fun e w' => e = .returned (.int .u64 (leL (s.extract 0 4).data.toList)) ∧ RRd W B g (s.extract 4 s.size) w' ∧ Keeps (only g) w w' := rrnum_any h 4 (by omega) hn hs (by omega)
theorem rrnum_8 {W w : World} {B g : Nat} {s : ByteArray} (h : RRd W B g s w) (hn : 8 ≤ s.size) (hs : s.size ≤ 1000000) :
    Calls Tryz.prog 62 #[.pointer (some ⟨g, 0, none⟩), .int .i64 8] w fun e w' => e = .returned (.int .u64 (leL (s.extract 0 8).data.toList)) ∧ RRd W B g (s.extract 8 s.size) w' ∧ Keeps (only g) w w' := rrnum_any h 8 (by omega) hn hs (by omega)
end Go.Proofs.YtcbhdggjcelmaaaGreat.WI

/- The document's own answer: GetBlock. No condition. -/
namespace Go.Proofs.YtcbhdggjcelmaaaGreat.BK
set_option maxRecDepth 100000
open Go.RowKit Go.Proofs.YtcbhdggjcelmaaaGreat.WI Go.Proofs.YtcbhdggjcelmaaaGreat.SM
set_option linter.unusedVariables false
set_option linter.unusedSimpArgs false

theorem zeros_front : (zerosT 128).extract 0 96 = zerosT 96 := by decide +kernel
theorem rread (b : ByteArray) (hb : b.size = 64) (w : World) (hf : fitsR b = true) : Calls Tryz.prog 61 #[.string b] w fun e w' => e = .returned (.tuple #[.string (b.extract 0 60), .int .i64 0]) ∧ Below w.heap.size w w' := by
  have := refread_any b 60 hb (by omega) w
  unfold RefReadOut at this
  rw [if_pos hf] at this
  exact this
theorem rread_no (b : ByteArray) (hb : b.size = 64) (w : World) (hf : fitsR b = false) : Calls Tryz.prog 61 #[.string b] w fun e w' => e = .returned (.tuple #[.string ⟨#[]⟩, .int .i64 6]) ∧ Below w.heap.size w w' := by
  have := refread_any b 60 hb (by omega) w
  unfold RefReadOut at this
  rw [if_neg (by rw [hf]; decide)] at this
  exact this
theorem sl0 (b : ByteArray) (hb : b.size = 128) (w : World) : (Instr.slice 9 (.string b) none (some (.int .i64 64)) none).run Tryz.prog w = .ok (.string (sect b 0)) w := by
  rw [run_slice_string_h (P := Tryz.prog) (ht := Tryz.underlying9) (kh := .i64) (h := 64) (h0 := by decide) (h2 := by omega)]
  rfl
theorem sl1 (b : ByteArray) (hb : b.size = 128) (w : World) : (Instr.slice 9 (.string b) (some (.int .i64 64)) none none).run Tryz.prog w = .ok (.string (sect b 1)) w := by
  rw [run_slice_string_l (P := Tryz.prog) (ht := Tryz.underlying9) (kl := .i64) (l := 64) (h0 := by decide) (h1 := by omega), hb]
  rfl
set_option maxHeartbeats 4000000 in
theorem rget_size (n : Int) (b : ByteArray) (hs : b.size ≠ 128) (w : World) : Calls Tryz.prog 30 #[.int .i64 n, .string b] w fun x w' => x = .returned (.tuple #[iagg im0, .int .i64 5]) ∧ Below w.heap.size w w' := by
  have hs2 : ((b.size : Int) == 128) = false := by rw [beq_eq_false_iff_ne]; omega
  have hs3 : ¬ (b.size : Int) = 128 := by omega
  unfold iagg
  clear hs
  have hbn := Blk.new w TIm #[.int .i64 0, .int .u64 0, .string ⟨#[]⟩]
  have hb0 := belowNew (belowSame w) (.cells #[.int .i64 0, .int .u64 0, .string ⟨#[]⟩] TIm)
  obtain ⟨W0, hW0⟩ : ∃ W0, w.alloc (.cells #[.int .i64 0, .int .u64 0, .string ⟨#[]⟩] TIm) = W0 := ⟨_, rfl⟩
  rw [hW0] at hbn hb0
  obtain ⟨r0, hr0⟩ : ∃ r, w.heap.size = r := ⟨_, rfl⟩
  rw [hr0] at hbn
  have HW0 := Lib.hid (show w.alloc (.cells #[.int .i64 0, .int .u64 0, .string ⟨#[]⟩] TIm) = W0 from hW0)
  have HR0 := Lib.hid hr0
  have HBN := Lib.hid hbn
  have HB0 := Lib.hid hb0
  clear hbn hb0 hW0 hr0
  go_enter Tryz.func30, Tryz.ntmps30
  go_upto_region 1 with fail
  rw [HW0.out, HR0.out]
  have br := HBN.out
  have y0 : W0.cell? ⟨r0, 0, none⟩ = some (.int .i64 0) := br.cell 0
  have f0 := br.frozen 0
  have y1 : W0.cell? ⟨r0, 1, none⟩ = some (.int .u64 0) := br.cell 1
  have f1 := br.frozen 1
  have y2 : W0.cell? ⟨r0, 2, none⟩ = some (.string ⟨#[]⟩) := br.cell 2
  have f2 := br.frozen 2
  have HBR := HBN
  have HBE := Lib.hid (belowSame W0)
  clear br
  go_wp2_with fail
  have b4 := ((HBR.out.set_ 0 (.int .i64 0)).set_ 1 (.int .u64 0)).set_ 2 (.string ⟨#[]⟩)
  have hr0 : w.heap.size ≤ r0 := by rw [HR0.out]; exact Nat.le_refl _
  have hA : Below w.heap.size w W0 := HB0.out.trans (HBE.out.mono HB0.out.size)
  have hE : Below w.heap.size w (((W0.setCell ⟨r0, 0, none⟩ (.int .i64 0)).setCell ⟨r0, 1, none⟩ (.int .u64 0)).setCell ⟨r0, 2, none⟩ (.string ⟨#[]⟩)) := ((hA.setCell (p := ⟨r0, 0, none⟩) hr0 (.int .i64 0)).setCell (p := ⟨r0, 1, none⟩) hr0 (.int .u64 0)).setCell (p := ⟨r0, 2, none⟩) hr0 (.string ⟨#[]⟩)
  have d0 : (((W0.setCell ⟨r0, 0, none⟩ (.int .i64 0)).setCell ⟨r0, 1, none⟩ (.int .u64 0)).setCell ⟨r0, 2, none⟩ (.string ⟨#[]⟩)).cell? ⟨r0, 0, none⟩ = some (.int .i64 0) := b4.cell 0
  have d1 : (((W0.setCell ⟨r0, 0, none⟩ (.int .i64 0)).setCell ⟨r0, 1, none⟩ (.int .u64 0)).setCell ⟨r0, 2, none⟩ (.string ⟨#[]⟩)).cell? ⟨r0, 1, none⟩ = some (.int .u64 0) := b4.cell 1
  have d2 : (((W0.setCell ⟨r0, 0, none⟩ (.int .i64 0)).setCell ⟨r0, 1, none⟩ (.int .u64 0)).setCell ⟨r0, 2, none⟩ (.string ⟨#[]⟩)).cell? ⟨r0, 2, none⟩ = some (.string ⟨#[]⟩) := b4.cell 2
  exact bodyPost_ret (v := .tuple #[.agg #[.int .i64 0, .int .u64 0, .string ⟨#[]⟩], .int .i64 5]) (by simp [results, Tryz.results30, go_sem, d0, d1, d2]) rfl ⟨rfl, hE⟩
set_option maxHeartbeats 4000000 in
theorem rget_zero (n : Int) (w : World) : Calls Tryz.prog 30 #[.int .i64 n, .string (zerosT 128)] w fun x w' => x = .returned (.tuple #[iagg ⟨n, 0, zerosT 96⟩, .int .i64 0]) ∧ Below w.heap.size w w' := by
  have hs2 : ((zerosT 128).size : Int) = 128 := by rw [zerosT_size]; rfl
  have hmk : ∀ W : World, (Instr.makeSlice 77 (.int .i64 128) (.int .i64 128)).run Tryz.prog W = .ok (.slice (some ⟨W.heap.size, 0, none⟩) 128 128) (W.alloc (.cells (zeroCells 128) 5)) := zeros_make 128 (by omega)
  have hcv : ∀ W : World, (convert 77 9 (.slice (some ⟨W.heap.size, 0, none⟩) 128 128)).run Tryz.prog (W.alloc (.cells (zeroCells 128) 5)) = .ok (.string (zerosT 128)) (W.alloc (.cells (zeroCells 128) 5)) := fun W => by
    have := text_of (zeros_cells 128 W) 128 128 (by simp)
    rwa [zeros_text] at this
  generalize zeroCells 128 = ZC at *
  have hz9 : ∀ w : World, (Instr.slice 9 (.string (zerosT 128)) none (some (.int .i64 96)) none).run Tryz.prog w = .ok (.string (zerosT 96)) w := fun w => by
    rw [run_slice_string_h (P := Tryz.prog) (ht := Tryz.underlying9) (kh := .i64) (h := 96) (h0 := by decide) (h2 := by omega), show (96 : Int).toNat = 96 from rfl, zeros_front]
  generalize zerosT 128 = b at *
  have he := list_eq b
  generalize zerosT 96 = Z at *
  unfold iagg
  have hbn := Blk.new w TIm #[.int .i64 0, .int .u64 0, .string ⟨#[]⟩]
  have hb0 := belowNew (belowSame w) (.cells #[.int .i64 0, .int .u64 0, .string ⟨#[]⟩] TIm)
  obtain ⟨W0, hW0⟩ : ∃ W0, w.alloc (.cells #[.int .i64 0, .int .u64 0, .string ⟨#[]⟩] TIm) = W0 := ⟨_, rfl⟩
  rw [hW0] at hbn hb0
  obtain ⟨r0, hr0⟩ : ∃ r, w.heap.size = r := ⟨_, rfl⟩
  rw [hr0] at hbn
  have HW0 := Lib.hid (show w.alloc (.cells #[.int .i64 0, .int .u64 0, .string ⟨#[]⟩] TIm) = W0 from hW0)
  have HR0 := Lib.hid hr0
  have HBN := Lib.hid hbn
  have HB0 := Lib.hid hb0
  clear hbn hb0 hW0 hr0
  have hb1 := belowNew (belowSame W0) (.cells ZC 5)
  have br := HBN.out.below hb1 HBN.out.lt
  have y0 : (W0.alloc (.cells ZC 5)).cell? ⟨r0, 0, none⟩ = some (.int .i64 0) := br.cell 0
  have f0 := br.frozen 0
  have y1 : (W0.alloc (.cells ZC 5)).cell? ⟨r0, 1, none⟩ = some (.int .u64 0) := br.cell 1
  have f1 := br.frozen 1
  have y2 : (W0.alloc (.cells ZC 5)).cell? ⟨r0, 2, none⟩ = some (.string ⟨#[]⟩) := br.cell 2
  have f2 := br.frozen 2
  have HBR1 := Lib.hid br
  have BW1 := Lib.hid hb1
  clear hb1 br
  go_enter Tryz.func30, Tryz.ntmps30
  go_upto_region 1 with fail
  rw [HW0.out, HR0.out]
  have hmk0 := hmk W0
  have hcv0 := hcv W0
  clear hmk hcv
  go_wp2_with fail
  have HBR := HBR1
  have HBE := BW1
  have b4 := ((HBR.out.set_ 0 (.int .i64 n)).set_ 1 (.int .u64 0)).set_ 2 (.string Z)
  have hr0 : w.heap.size ≤ r0 := by rw [HR0.out]; exact Nat.le_refl _
  have hA : Below w.heap.size w (W0.alloc (.cells ZC 5)) := HB0.out.trans (HBE.out.mono HB0.out.size)
  have hE : Below w.heap.size w ((((W0.alloc (.cells ZC 5)).setCell ⟨r0, 0, none⟩ (.int .i64 n)).setCell ⟨r0, 1, none⟩ (.int .u64 0)).setCell ⟨r0, 2, none⟩ (.string Z)) := ((hA.setCell (p := ⟨r0, 0, none⟩) hr0 (.int .i64 n)).setCell (p := ⟨r0, 1, none⟩) hr0 (.int .u64 0)).setCell (p := ⟨r0, 2, none⟩) hr0 (.string Z)
  have d0 : ((((W0.alloc (.cells ZC 5)).setCell ⟨r0, 0, none⟩ (.int .i64 n)).setCell ⟨r0, 1, none⟩ (.int .u64 0)).setCell ⟨r0, 2, none⟩ (.string Z)).cell? ⟨r0, 0, none⟩ = some (.int .i64 n) := b4.cell 0
  have d1 : ((((W0.alloc (.cells ZC 5)).setCell ⟨r0, 0, none⟩ (.int .i64 n)).setCell ⟨r0, 1, none⟩ (.int .u64 0)).setCell ⟨r0, 2, none⟩ (.string Z)).cell? ⟨r0, 1, none⟩ = some (.int .u64 0) := b4.cell 1
  have d2 : ((((W0.alloc (.cells ZC 5)).setCell ⟨r0, 0, none⟩ (.int .i64 n)).setCell ⟨r0, 1, none⟩ (.int .u64 0)).setCell ⟨r0, 2, none⟩ (.string Z)).cell? ⟨r0, 2, none⟩ = some (.string Z) := b4.cell 2
  exact bodyPost_ret (v := .tuple #[.agg #[.int .i64 n, .int .u64 0, .string Z], .int .i64 0]) (by simp [results, Tryz.results30, go_sem, d0, d1, d2]) rfl ⟨rfl, hE⟩
set_option maxHeartbeats 4000000 in
theorem rget_none0 (n : Int) (b : ByteArray) (hb : b.size = 128) (hz : b ≠ zerosT 128) (hf : fitsR (sect b 0) = false) (w : World) : Calls Tryz.prog 30 #[.int .i64 n, .string b] w fun x w' => x = .returned (.tuple #[iagg im0, .int .i64 6]) ∧ Below w.heap.size w w' := by
  have hs2 : (b.size : Int) = 128 := by omega
  have hmk : ∀ W : World, (Instr.makeSlice 77 (.int .i64 128) (.int .i64 128)).run Tryz.prog W = .ok (.slice (some ⟨W.heap.size, 0, none⟩) 128 128) (W.alloc (.cells (zeroCells 128) 5)) := zeros_make 128 (by omega)
  have hcv : ∀ W : World, (convert 77 9 (.slice (some ⟨W.heap.size, 0, none⟩) 128 128)).run Tryz.prog (W.alloc (.cells (zeroCells 128) 5)) = .ok (.string (zerosT 128)) (W.alloc (.cells (zeroCells 128) 5)) := fun W => by
    have := text_of (zeros_cells 128 W) 128 128 (by simp)
    rwa [zeros_text] at this
  generalize zeroCells 128 = ZC at *
  have he := list_ne hz
  generalize zerosT 128 = ZZ at hcv he
  have q0 := fun w => sl0 b hb w
  have q1 := fun w => sl1 b hb w
  have z0 : (sect b 0).size = 64 := by unfold sect; rw [ByteArray.size_extract]; omega
  have z1 : (sect b 1).size = 64 := by unfold sect; rw [ByteArray.size_extract]; omega
  have kr := fun W => rread_no (sect b 0) z0 W hf
  generalize sect b 0 = S0 at *
  generalize sect b 1 = S1 at *
  unfold iagg at *
  clear hb hz hf z0 z1
  have hbn := Blk.new w TIm #[.int .i64 0, .int .u64 0, .string ⟨#[]⟩]
  have hb0 := belowNew (belowSame w) (.cells #[.int .i64 0, .int .u64 0, .string ⟨#[]⟩] TIm)
  obtain ⟨W0, hW0⟩ : ∃ W0, w.alloc (.cells #[.int .i64 0, .int .u64 0, .string ⟨#[]⟩] TIm) = W0 := ⟨_, rfl⟩
  rw [hW0] at hbn hb0
  obtain ⟨r0, hr0⟩ : ∃ r, w.heap.size = r := ⟨_, rfl⟩
  rw [hr0] at hbn
  have HW0 := Lib.hid (show w.alloc (.cells #[.int .i64 0, .int .u64 0, .string ⟨#[]⟩] TIm) = W0 from hW0)
  have HR0 := Lib.hid hr0
  have HBN := Lib.hid hbn
  have HB0 := Lib.hid hb0
  clear hbn hb0 hW0 hr0
  have hb1 := belowNew (belowSame W0) (.cells ZC 5)
  have br := HBN.out.below hb1 HBN.out.lt
  have y0 : (W0.alloc (.cells ZC 5)).cell? ⟨r0, 0, none⟩ = some (.int .i64 0) := br.cell 0
  have f0 := br.frozen 0
  have y1 : (W0.alloc (.cells ZC 5)).cell? ⟨r0, 1, none⟩ = some (.int .u64 0) := br.cell 1
  have f1 := br.frozen 1
  have y2 : (W0.alloc (.cells ZC 5)).cell? ⟨r0, 2, none⟩ = some (.string ⟨#[]⟩) := br.cell 2
  have f2 := br.frozen 2
  have HBR1 := Lib.hid br
  have BW1 := Lib.hid hb1
  clear hb1 br
  go_enter Tryz.func30, Tryz.ntmps30
  go_upto_region 1 with fail
  rw [HW0.out, HR0.out]
  have hmk0 := hmk W0
  have hcv0 := hcv W0
  clear hmk hcv
  go_wp2_with (go_at_call 61; refine (kr _).mono ?_; rintro x w2 ⟨rfl, hb2⟩; have hb3 := belowThen BW1.out hb2; have br := HBN.out.below hb3 HBN.out.lt; have y0 : w2.cell? ⟨r0, 0, none⟩ = some (.int .i64 0) := br.cell 0; have f0 := br.frozen 0; have y1 : w2.cell? ⟨r0, 1, none⟩ = some (.int .u64 0) := br.cell 1; have f1 := br.frozen 1; have y2 : w2.cell? ⟨r0, 2, none⟩ = some (.string ⟨#[]⟩) := br.cell 2; have f2 := br.frozen 2; have HBR := Lib.hid br; have HBE := Lib.hid hb3; clear br; clear hb2 hb3)
  have b4 := ((HBR.out.set_ 0 (.int .i64 0)).set_ 1 (.int .u64 0)).set_ 2 (.string ⟨#[]⟩)
  have hr0 : w.heap.size ≤ r0 := by rw [HR0.out]; exact Nat.le_refl _
  have hA : Below w.heap.size w w2 := HB0.out.trans (HBE.out.mono HB0.out.size)
  have hE : Below w.heap.size w (((w2.setCell ⟨r0, 0, none⟩ (.int .i64 0)).setCell ⟨r0, 1, none⟩ (.int .u64 0)).setCell ⟨r0, 2, none⟩ (.string ⟨#[]⟩)) := ((hA.setCell (p := ⟨r0, 0, none⟩) hr0 (.int .i64 0)).setCell (p := ⟨r0, 1, none⟩) hr0 (.int .u64 0)).setCell (p := ⟨r0, 2, none⟩) hr0 (.string ⟨#[]⟩)
  have d0 : (((w2.setCell ⟨r0, 0, none⟩ (.int .i64 0)).setCell ⟨r0, 1, none⟩ (.int .u64 0)).setCell ⟨r0, 2, none⟩ (.string ⟨#[]⟩)).cell? ⟨r0, 0, none⟩ = some (.int .i64 0) := b4.cell 0
  have d1 : (((w2.setCell ⟨r0, 0, none⟩ (.int .i64 0)).setCell ⟨r0, 1, none⟩ (.int .u64 0)).setCell ⟨r0, 2, none⟩ (.string ⟨#[]⟩)).cell? ⟨r0, 1, none⟩ = some (.int .u64 0) := b4.cell 1
  have d2 : (((w2.setCell ⟨r0, 0, none⟩ (.int .i64 0)).setCell ⟨r0, 1, none⟩ (.int .u64 0)).setCell ⟨r0, 2, none⟩ (.string ⟨#[]⟩)).cell? ⟨r0, 2, none⟩ = some (.string ⟨#[]⟩) := b4.cell 2
  exact bodyPost_ret (v := .tuple #[.agg #[.int .i64 0, .int .u64 0, .string ⟨#[]⟩], .int .i64 6]) (by simp [results, Tryz.results30, go_sem, d0, d1, d2]) rfl ⟨rfl, hE⟩
set_option maxHeartbeats 4000000 in
theorem rget_none1 (n : Int) (b : ByteArray) (hb : b.size = 128) (hz : b ≠ zerosT 128) (hf : fitsR (sect b 0) = true) (hf2 : fitsR (sect b 1) = false) (hne : sect b 0 ≠ sect b 1) (w : World) : Calls Tryz.prog 30 #[.int .i64 n, .string b] w fun x w' => x = .returned (.tuple #[iagg im0, .int .i64 6]) ∧ Below w.heap.size w w' := by
  have hs2 : (b.size : Int) = 128 := by omega
  have hmk : ∀ W : World, (Instr.makeSlice 77 (.int .i64 128) (.int .i64 128)).run Tryz.prog W = .ok (.slice (some ⟨W.heap.size, 0, none⟩) 128 128) (W.alloc (.cells (zeroCells 128) 5)) := zeros_make 128 (by omega)
  have hcv : ∀ W : World, (convert 77 9 (.slice (some ⟨W.heap.size, 0, none⟩) 128 128)).run Tryz.prog (W.alloc (.cells (zeroCells 128) 5)) = .ok (.string (zerosT 128)) (W.alloc (.cells (zeroCells 128) 5)) := fun W => by
    have := text_of (zeros_cells 128 W) 128 128 (by simp)
    rwa [zeros_text] at this
  generalize zeroCells 128 = ZC at *
  have he := list_ne hz
  generalize zerosT 128 = ZZ at hcv he
  have q0 := fun w => sl0 b hb w
  have q1 := fun w => sl1 b hb w
  have z0 : (sect b 0).size = 64 := by unfold sect; rw [ByteArray.size_extract]; omega
  have z1 : (sect b 1).size = 64 := by unfold sect; rw [ByteArray.size_extract]; omega
  have kr := fun W => rread (sect b 0) z0 W hf
  have kr2 := fun W => rread_no (sect b 1) z1 W hf2
  generalize (sect b 0).extract 0 60 = F0 at *
  generalize sect b 0 = S0 at *
  generalize sect b 1 = S1 at *
  unfold iagg at *
  clear hb hz hf hf2 z0 z1 hne
  have hbn := Blk.new w TIm #[.int .i64 0, .int .u64 0, .string ⟨#[]⟩]
  have hb0 := belowNew (belowSame w) (.cells #[.int .i64 0, .int .u64 0, .string ⟨#[]⟩] TIm)
  obtain ⟨W0, hW0⟩ : ∃ W0, w.alloc (.cells #[.int .i64 0, .int .u64 0, .string ⟨#[]⟩] TIm) = W0 := ⟨_, rfl⟩
  rw [hW0] at hbn hb0
  obtain ⟨r0, hr0⟩ : ∃ r, w.heap.size = r := ⟨_, rfl⟩
  rw [hr0] at hbn
  have HW0 := Lib.hid (show w.alloc (.cells #[.int .i64 0, .int .u64 0, .string ⟨#[]⟩] TIm) = W0 from hW0)
  have HR0 := Lib.hid hr0
  have HBN := Lib.hid hbn
  have HB0 := Lib.hid hb0
  clear hbn hb0 hW0 hr0
  have hb1 := belowNew (belowSame W0) (.cells ZC 5)
  have br := HBN.out.below hb1 HBN.out.lt
  have y0 : (W0.alloc (.cells ZC 5)).cell? ⟨r0, 0, none⟩ = some (.int .i64 0) := br.cell 0
  have f0 := br.frozen 0
  have y1 : (W0.alloc (.cells ZC 5)).cell? ⟨r0, 1, none⟩ = some (.int .u64 0) := br.cell 1
  have f1 := br.frozen 1
  have y2 : (W0.alloc (.cells ZC 5)).cell? ⟨r0, 2, none⟩ = some (.string ⟨#[]⟩) := br.cell 2
  have f2 := br.frozen 2
  have HBR1 := Lib.hid br
  have BW1 := Lib.hid hb1
  clear hb1 br
  go_enter Tryz.func30, Tryz.ntmps30
  go_upto_region 1 with fail
  rw [HW0.out, HR0.out]
  have hmk0 := hmk W0
  have hcv0 := hcv W0
  clear hmk hcv
  go_wp2_with (first
    | (go_at_call 61; ((with_reducible refine (kr _).mono ?_); rintro x w2 ⟨rfl, hb2⟩); have BW2 := Lib.hid (belowThen BW1.out hb2); clear hb2 kr)
    | (go_at_call 61; refine (kr2 _).mono ?_; rintro x w3 ⟨rfl, hb2⟩; have hb3 := belowThen BW2.out hb2; have br := HBN.out.below hb3 HBN.out.lt; have y0 : w3.cell? ⟨r0, 0, none⟩ = some (.int .i64 0) := br.cell 0; have f0 := br.frozen 0; have y1 : w3.cell? ⟨r0, 1, none⟩ = some (.int .u64 0) := br.cell 1; have f1 := br.frozen 1; have y2 : w3.cell? ⟨r0, 2, none⟩ = some (.string ⟨#[]⟩) := br.cell 2; have f2 := br.frozen 2; have HBR := Lib.hid br; have HBE := Lib.hid hb3; clear br; clear hb2 hb3))
  have b4 := ((HBR.out.set_ 0 (.int .i64 0)).set_ 1 (.int .u64 0)).set_ 2 (.string ⟨#[]⟩)
  have hr0 : w.heap.size ≤ r0 := by rw [HR0.out]; exact Nat.le_refl _
  have hA : Below w.heap.size w w3 := HB0.out.trans (HBE.out.mono HB0.out.size)
  have hE : Below w.heap.size w (((w3.setCell ⟨r0, 0, none⟩ (.int .i64 0)).setCell ⟨r0, 1, none⟩ (.int .u64 0)).setCell ⟨r0, 2, none⟩ (.string ⟨#[]⟩)) := ((hA.setCell (p := ⟨r0, 0, none⟩) hr0 (.int .i64 0)).setCell (p := ⟨r0, 1, none⟩) hr0 (.int .u64 0)).setCell (p := ⟨r0, 2, none⟩) hr0 (.string ⟨#[]⟩)
  have d0 : (((w3.setCell ⟨r0, 0, none⟩ (.int .i64 0)).setCell ⟨r0, 1, none⟩ (.int .u64 0)).setCell ⟨r0, 2, none⟩ (.string ⟨#[]⟩)).cell? ⟨r0, 0, none⟩ = some (.int .i64 0) := b4.cell 0
  have d1 : (((w3.setCell ⟨r0, 0, none⟩ (.int .i64 0)).setCell ⟨r0, 1, none⟩ (.int .u64 0)).setCell ⟨r0, 2, none⟩ (.string ⟨#[]⟩)).cell? ⟨r0, 1, none⟩ = some (.int .u64 0) := b4.cell 1
  have d2 : (((w3.setCell ⟨r0, 0, none⟩ (.int .i64 0)).setCell ⟨r0, 1, none⟩ (.int .u64 0)).setCell ⟨r0, 2, none⟩ (.string ⟨#[]⟩)).cell? ⟨r0, 2, none⟩ = some (.string ⟨#[]⟩) := b4.cell 2
  exact bodyPost_ret (v := .tuple #[.agg #[.int .i64 0, .int .u64 0, .string ⟨#[]⟩], .int .i64 6]) (by simp [results, Tryz.results30, go_sem, d0, d1, d2]) rfl ⟨rfl, hE⟩
theorem two_a (w : World) (B : Nat) (hB : B ≤ w.heap.size) (X Y : ByteArray) : RRd w B w.heap.size X ((w.alloc (.cells #[.string X, .int .i64 0] TRR)).alloc (.cells #[.string Y, .int .i64 0] TRR)) ∧ RRd w B (w.heap.size + 1) Y ((w.alloc (.cells #[.string X, .int .i64 0] TRR)).alloc (.cells #[.string Y, .int .i64 0] TRR)) ∧ w.heap.size ≠ w.heap.size + 1 := by
  have hs : (w.alloc (.cells #[.string X, .int .i64 0] TRR)).heap.size = w.heap.size + 1 := by simp
  have hbb : Below B w ((w.alloc (.cells #[.string X, .int .i64 0] TRR)).alloc (.cells #[.string Y, .int .i64 0] TRR)) := (belowNew (belowNew (belowSame w) _) _).mono hB
  refine ⟨⟨(Blk.new w _ _).alloc _, hbb, hB⟩, ⟨?_, hbb, by omega⟩, by omega⟩
  rw [← hs]
  exact Blk.new _ _ _
theorem two_b (w : World) (B : Nat) (hB : B ≤ w.heap.size) (X Y : ByteArray) : RRd w B (w.heap.size + 1) X ((w.alloc (.cells #[.string Y, .int .i64 0] TRR)).alloc (.cells #[.string X, .int .i64 0] TRR)) ∧ RRd w B w.heap.size Y ((w.alloc (.cells #[.string Y, .int .i64 0] TRR)).alloc (.cells #[.string X, .int .i64 0] TRR)) ∧ w.heap.size + 1 ≠ w.heap.size := by
  obtain ⟨h1, h2, h3⟩ := two_a w B hB Y X
  exact ⟨h2, h1, fun e => h3 e.symm⟩
theorem rrd_drew {W w : World} {B g : Nat} {s : ByteArray} (h : RRd W B g s w) : RRd W B g s w.drew := ⟨h.1.drew, h.2.1.drew, h.2.2⟩
theorem rrd_other {W w w' : World} {B g g' : Nat} {s s' : ByteArray} (h : RRd W B g s w) (hk : Keeps (only g') w w') (h' : RRd W B g' s' w') (hne : g ≠ g') : RRd W B g s w' := ⟨h.1.keeps hk hne, h'.2.1, h.2.2⟩
set_option maxHeartbeats 16000000 in
theorem rget_good (n : Int) (b : ByteArray) (hb : b.size = 128) (hz : b ≠ zerosT 128) (hf : fitsR (sect b 0) = true) (hf2 : fitsR (sect b 1) = true) (hx : rdB (rdF b 0) = n) (hy : rdB (rdF b 1) = n) (hn : n < 4096) (hv : rdV (rdF b 0) = rdV (rdF b 1)) (w : World) : Calls Tryz.prog 30 #[.int .i64 n, .string b] w fun x w' => x = .returned (.tuple #[iagg ⟨n, rdV (rdF b 0), rdD (rdF b 0) ++ rdD (rdF b 1)⟩, .int .i64 0]) ∧ Below w.heap.size w w' := by
  have hs2 : (b.size : Int) = 128 := by omega
  have hmk : ∀ W : World, (Instr.makeSlice 77 (.int .i64 128) (.int .i64 128)).run Tryz.prog W = .ok (.slice (some ⟨W.heap.size, 0, none⟩) 128 128) (W.alloc (.cells (zeroCells 128) 5)) := zeros_make 128 (by omega)
  have hcv : ∀ W : World, (convert 77 9 (.slice (some ⟨W.heap.size, 0, none⟩) 128 128)).run Tryz.prog (W.alloc (.cells (zeroCells 128) 5)) = .ok (.string (zerosT 128)) (W.alloc (.cells (zeroCells 128) 5)) := fun W => by
    have := text_of (zeros_cells 128 W) 128 128 (by simp)
    rwa [zeros_text] at this
  generalize zeroCells 128 = ZC at *
  have he := list_ne hz
  generalize zerosT 128 = ZZ at hcv he
  have q0 := fun w => sl0 b hb w
  have q1 := fun w => sl1 b hb w
  have z0 : (sect b 0).size = 64 := by unfold sect; rw [ByteArray.size_extract]; omega
  have z1 : (sect b 1).size = 64 := by unfold sect; rw [ByteArray.size_extract]; omega
  have kr := fun W => rread (sect b 0) z0 W hf
  have kr2 := fun W => rread (sect b 1) z1 W hf2
  have hF0 : (rdF b 0).size = 60 := rdF_size b hb (by omega)
  have hF1 : (rdF b 1).size = 60 := rdF_size b hb (by omega)
  rw [show (sect b 0).extract 0 60 = rdF b 0 from rfl] at kr
  rw [show (sect b 1).extract 0 60 = rdF b 1 from rfl] at kr2
  have bx := rdB_b (rdF b 0) hF0
  have bY := rdB_b (rdF b 1) hF1
  generalize rdF b 0 = F0 at *
  generalize rdF b 1 = F1 at *
  generalize sect b 0 = S0 at *
  generalize sect b 1 = S1 at *
  obtain ⟨X0, hX0⟩ : ∃ X, F0.extract 48 F0.size = X := ⟨_, rfl⟩
  have hXz0 : X0.size = 12 := by rw [← hX0, ByteArray.size_extract]; omega
  obtain ⟨Y0, hY0⟩ : ∃ X, X0.extract 4 X0.size = X := ⟨_, rfl⟩
  have hYz0 : Y0.size = 8 := by rw [← hY0, ByteArray.size_extract]; omega
  have hb0 : leL (X0.extract 0 4).data.toList = rdB F0 := by unfold rdB; rw [hX0]
  have hv0 : leL (Y0.extract 0 8).data.toList = rdV F0 := by unfold rdV; rw [hX0, hY0]
  have hd0 : F0.extract 0 48 = rdD F0 := rfl
  have num0 : ∀ {W w : World} {B g : Nat}, RRd W B g X0 w → Calls Tryz.prog 62 #[.pointer (some ⟨g, 0, none⟩), .int .i64 4] w fun x w' => x = .returned (.int .u64 (rdB F0)) ∧ RRd W B g Y0 w' ∧ Keeps (only g) w w' := fun h => by
    have := rrnum_4 h (by omega) (by omega); rwa [hb0, hY0] at this
  have ver0 : ∀ {W w : World} {B g : Nat}, RRd W B g Y0 w → Calls Tryz.prog 62 #[.pointer (some ⟨g, 0, none⟩), .int .i64 8] w fun x w' => x = .returned (.int .u64 (rdV F0)) ∧ RRd W B g (Y0.extract 8 Y0.size) w' ∧ Keeps (only g) w w' := fun h => by
    have := rrnum_8 h (by omega) (by omega); rwa [hv0] at this
  generalize Y0.extract 8 Y0.size = U0 at ver0
  have sl0 : ∀ w : World, (Instr.slice 9 (.string F0) (some (.int .i64 48)) none none).run Tryz.prog w = .ok (.string X0) w := fun w => by
    rw [run_slice_string_l (P := Tryz.prog) (ht := Tryz.underlying9) (kl := .i64) (l := 48) (h0 := by decide) (h1 := by omega), show (48 : Int).toNat = 48 from rfl, hX0]
  have slh0 : ∀ w : World, (Instr.slice 9 (.string F0) none (some (.int .i64 48)) none).run Tryz.prog w = .ok (.string (rdD F0)) w := fun w => by
    rw [run_slice_string_h (P := Tryz.prog) (ht := Tryz.underlying9) (kh := .i64) (h := 48) (h0 := by decide) (h2 := by omega), show (48 : Int).toNat = 48 from rfl, hd0]
  have hds0 : (rdD F0).size = 48 := by rw [← hd0, ByteArray.size_extract]; omega
  obtain ⟨X1, hX1⟩ : ∃ X, F1.extract 48 F1.size = X := ⟨_, rfl⟩
  have hXz1 : X1.size = 12 := by rw [← hX1, ByteArray.size_extract]; omega
  obtain ⟨Y1, hY1⟩ : ∃ X, X1.extract 4 X1.size = X := ⟨_, rfl⟩
  have hYz1 : Y1.size = 8 := by rw [← hY1, ByteArray.size_extract]; omega
  have hb1 : leL (X1.extract 0 4).data.toList = rdB F1 := by unfold rdB; rw [hX1]
  have hv1 : leL (Y1.extract 0 8).data.toList = rdV F1 := by unfold rdV; rw [hX1, hY1]
  have hd1 : F1.extract 0 48 = rdD F1 := rfl
  have num1 : ∀ {W w : World} {B g : Nat}, RRd W B g X1 w → Calls Tryz.prog 62 #[.pointer (some ⟨g, 0, none⟩), .int .i64 4] w fun x w' => x = .returned (.int .u64 (rdB F1)) ∧ RRd W B g Y1 w' ∧ Keeps (only g) w w' := fun h => by
    have := rrnum_4 h (by omega) (by omega); rwa [hb1, hY1] at this
  have ver1 : ∀ {W w : World} {B g : Nat}, RRd W B g Y1 w → Calls Tryz.prog 62 #[.pointer (some ⟨g, 0, none⟩), .int .i64 8] w fun x w' => x = .returned (.int .u64 (rdV F1)) ∧ RRd W B g (Y1.extract 8 Y1.size) w' ∧ Keeps (only g) w w' := fun h => by
    have := rrnum_8 h (by omega) (by omega); rwa [hv1] at this
  generalize Y1.extract 8 Y1.size = U1 at ver1
  have sl1 : ∀ w : World, (Instr.slice 9 (.string F1) (some (.int .i64 48)) none none).run Tryz.prog w = .ok (.string X1) w := fun w => by
    rw [run_slice_string_l (P := Tryz.prog) (ht := Tryz.underlying9) (kl := .i64) (l := 48) (h0 := by decide) (h1 := by omega), show (48 : Int).toNat = 48 from rfl, hX1]
  have slh1 : ∀ w : World, (Instr.slice 9 (.string F1) none (some (.int .i64 48)) none).run Tryz.prog w = .ok (.string (rdD F1)) w := fun w => by
    rw [run_slice_string_h (P := Tryz.prog) (ht := Tryz.underlying9) (kh := .i64) (h := 48) (h0 := by decide) (h2 := by omega), show (48 : Int).toNat = 48 from rfl, hd1]
  have hds1 : (rdD F1).size = 48 := by rw [← hd1, ByteArray.size_extract]; omega
  have hcat : ¬ 9223372036854775807 < (rdD F0).size + (rdD F1).size := by omega
  have eb0 : IntKind.i64.wrap (rdB F0) = rdB F0 := IntWalk.i64_in _ (by omega)
  have eb1 : IntKind.i64.wrap (rdB F1) = rdB F1 := IntWalk.i64_in _ (by omega)
  rw [hx] at num0 eb0
  rw [hy] at num1 eb1
  rw [← hv] at ver1
  obtain ⟨xv, hxv⟩ : ∃ x, rdV F0 = x := ⟨_, rfl⟩
  rw [hxv] at ver0 ver1 ⊢
  obtain ⟨xd, hxd⟩ : ∃ x, rdD F0 = x := ⟨_, rfl⟩
  obtain ⟨yd, hyd⟩ : ∃ x, rdD F1 = x := ⟨_, rfl⟩
  rw [hxd] at slh0 hcat ⊢
  rw [hyd] at slh1 hcat ⊢
  have m3 : decide (4096 ≤ n) = false := by simp; omega
  unfold iagg at *
  clear hb hz hf hf2 z0 z1 bx bY hF0 hF1 hX0 hX1 hXz0 hXz1 hY0 hY1 hYz0 hYz1 hb0 hb1 hv0 hv1 hd0 hd1 hds0 hds1 hxv hxd hyd hx hy hv
  have hbn := Blk.new w TIm #[.int .i64 0, .int .u64 0, .string ⟨#[]⟩]
  have hb0 := belowNew (belowSame w) (.cells #[.int .i64 0, .int .u64 0, .string ⟨#[]⟩] TIm)
  obtain ⟨W0, hW0⟩ : ∃ W0, w.alloc (.cells #[.int .i64 0, .int .u64 0, .string ⟨#[]⟩] TIm) = W0 := ⟨_, rfl⟩
  rw [hW0] at hbn hb0
  obtain ⟨r0, hr0⟩ : ∃ r, w.heap.size = r := ⟨_, rfl⟩
  rw [hr0] at hbn
  have HW0 := Lib.hid (show w.alloc (.cells #[.int .i64 0, .int .u64 0, .string ⟨#[]⟩] TIm) = W0 from hW0)
  have HR0 := Lib.hid hr0
  have HBN := Lib.hid hbn
  have HB0 := Lib.hid hb0
  clear hbn hb0 hW0 hr0
  have hb1 := belowNew (belowSame W0) (.cells ZC 5)
  have br := HBN.out.below hb1 HBN.out.lt
  have y0 : (W0.alloc (.cells ZC 5)).cell? ⟨r0, 0, none⟩ = some (.int .i64 0) := br.cell 0
  have f0 := br.frozen 0
  have y1 : (W0.alloc (.cells ZC 5)).cell? ⟨r0, 1, none⟩ = some (.int .u64 0) := br.cell 1
  have f1 := br.frozen 1
  have y2 : (W0.alloc (.cells ZC 5)).cell? ⟨r0, 2, none⟩ = some (.string ⟨#[]⟩) := br.cell 2
  have f2 := br.frozen 2
  have HBR1 := Lib.hid br
  have BW1 := Lib.hid hb1
  clear hb1 br
  go_enter Tryz.func30, Tryz.ntmps30
  go_upto_region 1 with fail
  rw [HW0.out, HR0.out]
  have hmk0 := hmk W0
  have hcv0 := hcv W0
  clear hmk hcv
  go_upto_region 11 with (first
    | (go_at_call 61; ((with_reducible refine (kr _).mono ?_); rintro x w2 ⟨rfl, hb2⟩); have BW2 := Lib.hid (belowThen BW1.out hb2); clear hb2 kr)
    | (go_at_call 61; refine (kr2 _).mono ?_; rintro x w3 ⟨rfl, hb2⟩; have BW3 := Lib.hid (belowThen BW2.out hb2); clear hb2))
  clear y0 y1 y2 f0 f1 f2
  obtain ⟨B3, hB3⟩ : ∃ B, B = w3.heap.size := ⟨_, rfl⟩
  have HB3 := Lib.hid hB3
  have ta := two_a w3 B3 (by omega) X0 X1
  have tb := two_b w3 B3 (by omega) X0 X1
  have TA := Lib.hid ta
  have TB := Lib.hid tb
  clear hB3 ta tb
  go_region_law (fail)
  all_goals
    first
      | (obtain ⟨W4, hW4⟩ : ∃ W4, ((w3.alloc (.cells #[.string X0, .int .i64 0] TRR)).alloc (.cells #[.string X1, .int .i64 0] TRR)) = W4 := ⟨_, rfl⟩
         have h4 := TA.out
         rw [hW4] at h4 ⊢
         obtain ⟨gr, hgr⟩ : ∃ g, w3.heap.size = g := ⟨_, rfl⟩
         rw [hgr] at h4 ⊢
         obtain ⟨gs, hgs⟩ : ∃ g, gr + 1 = g := ⟨_, rfl⟩
         rw [hgs] at h4 ⊢
         clear hgr hgs hW4)
      | (obtain ⟨W4, hW4⟩ : ∃ W4, ((w3.alloc (.cells #[.string X1, .int .i64 0] TRR)).alloc (.cells #[.string X0, .int .i64 0] TRR)) = W4 := ⟨_, rfl⟩
         have h4 := TB.out
         rw [hW4] at h4 ⊢
         obtain ⟨gs, hgs⟩ : ∃ g, w3.heap.size = g := ⟨_, rfl⟩
         rw [hgs] at h4 ⊢
         obtain ⟨gr, hgr⟩ : ∃ g, gs + 1 = g := ⟨_, rfl⟩
         rw [hgr] at h4 ⊢
         clear hgr hgs hW4)
    obtain ⟨hr4, hs4, hne4⟩ := h4
    have HR := Lib.hid (rrd_drew hr4)
    have HS := Lib.hid (rrd_drew hs4)
    have HNE := Lib.hid hne4
    clear hr4 hs4 hne4 TA TB
    go_wp2_with (first
      | (go_at_call 62; ((with_reducible refine (num0 HR.out).mono ?_); rintro x w5 ⟨rfl, h5, k5⟩); have HS5 := Lib.hid (rrd_other HS.out k5 h5 (fun e => HNE.out e.symm)); have HR5 := Lib.hid h5; clear h5 k5 HR HS)
      | (go_at_call 62; ((with_reducible refine (num1 HS5.out).mono ?_); rintro x w6 ⟨rfl, h6, k6⟩); have HR6 := Lib.hid (rrd_other HR5.out k6 h6 HNE.out); have HS6 := Lib.hid h6; clear h6 k6 HR5 HS5)
      | (go_at_call 62; ((with_reducible refine (ver0 HR6.out).mono ?_); rintro x w7 ⟨rfl, h7, k7⟩); have HS7 := Lib.hid (rrd_other HS6.out k7 h7 (fun e => HNE.out e.symm)); clear h7 k7 HR6 HS6)
      | (go_at_call 62; ((with_reducible refine (ver1 HS7.out).mono ?_); rintro x w8 ⟨rfl, h8, k8⟩); have hb8 := belowThen BW3.out (by have h9 := h8.2.1; rw [HB3.out] at h9; exact h9); have br := HBN.out.below hb8 HBN.out.lt; have y0 : w8.cell? ⟨r0, 0, none⟩ = some (.int .i64 0) := br.cell 0; have f0 := br.frozen 0; have y1 : w8.cell? ⟨r0, 1, none⟩ = some (.int .u64 0) := br.cell 1; have f1 := br.frozen 1; have y2 : w8.cell? ⟨r0, 2, none⟩ = some (.string ⟨#[]⟩) := br.cell 2; have f2 := br.frozen 2; have HBR := Lib.hid br; have HBE := Lib.hid hb8; clear br; clear h8 k8 HS7 hb8))
    go_region_law (fail)
    all_goals
      go_wp2_with fail
      have b4 := ((HBR.out.set_ 0 (.int .i64 n)).set_ 1 (.int .u64 xv)).set_ 2 (.string (xd ++ yd))
      have hr0 : w.heap.size ≤ r0 := by rw [HR0.out]; exact Nat.le_refl _
      have hA : Below w.heap.size w w8 := HB0.out.trans (HBE.out.mono HB0.out.size)
      have hE : Below w.heap.size w (((w8.setCell ⟨r0, 0, none⟩ (.int .i64 n)).setCell ⟨r0, 1, none⟩ (.int .u64 xv)).setCell ⟨r0, 2, none⟩ (.string (xd ++ yd))) := ((hA.setCell (p := ⟨r0, 0, none⟩) hr0 (.int .i64 n)).setCell (p := ⟨r0, 1, none⟩) hr0 (.int .u64 xv)).setCell (p := ⟨r0, 2, none⟩) hr0 (.string (xd ++ yd))
      have d0 : (((w8.setCell ⟨r0, 0, none⟩ (.int .i64 n)).setCell ⟨r0, 1, none⟩ (.int .u64 xv)).setCell ⟨r0, 2, none⟩ (.string (xd ++ yd))).cell? ⟨r0, 0, none⟩ = some (.int .i64 n) := b4.cell 0
      have d1 : (((w8.setCell ⟨r0, 0, none⟩ (.int .i64 n)).setCell ⟨r0, 1, none⟩ (.int .u64 xv)).setCell ⟨r0, 2, none⟩ (.string (xd ++ yd))).cell? ⟨r0, 1, none⟩ = some (.int .u64 xv) := b4.cell 1
      have d2 : (((w8.setCell ⟨r0, 0, none⟩ (.int .i64 n)).setCell ⟨r0, 1, none⟩ (.int .u64 xv)).setCell ⟨r0, 2, none⟩ (.string (xd ++ yd))).cell? ⟨r0, 2, none⟩ = some (.string (xd ++ yd)) := b4.cell 2
      exact bodyPost_ret (v := .tuple #[.agg #[.int .i64 n, .int .u64 xv, .string (xd ++ yd)], .int .i64 0]) (by simp [results, Tryz.results30, go_sem, d0, d1, d2]) rfl ⟨rfl, belowDrew hE⟩
set_option maxHeartbeats 16000000 in
theorem rget_vers (n : Int) (b : ByteArray) (hb : b.size = 128) (hz : b ≠ zerosT 128) (hf : fitsR (sect b 0) = true) (hf2 : fitsR (sect b 1) = true) (hx : rdB (rdF b 0) = n) (hy : rdB (rdF b 1) = n) (hn : n < 4096) (hv : rdV (rdF b 0) ≠ rdV (rdF b 1)) (w : World) : Calls Tryz.prog 30 #[.int .i64 n, .string b] w fun x w' => x = .returned (.tuple #[iagg im0, .int .i64 6]) ∧ Below w.heap.size w w' := by
  have hs2 : (b.size : Int) = 128 := by omega
  have hmk : ∀ W : World, (Instr.makeSlice 77 (.int .i64 128) (.int .i64 128)).run Tryz.prog W = .ok (.slice (some ⟨W.heap.size, 0, none⟩) 128 128) (W.alloc (.cells (zeroCells 128) 5)) := zeros_make 128 (by omega)
  have hcv : ∀ W : World, (convert 77 9 (.slice (some ⟨W.heap.size, 0, none⟩) 128 128)).run Tryz.prog (W.alloc (.cells (zeroCells 128) 5)) = .ok (.string (zerosT 128)) (W.alloc (.cells (zeroCells 128) 5)) := fun W => by
    have := text_of (zeros_cells 128 W) 128 128 (by simp)
    rwa [zeros_text] at this
  generalize zeroCells 128 = ZC at *
  have he := list_ne hz
  generalize zerosT 128 = ZZ at hcv he
  have q0 := fun w => sl0 b hb w
  have q1 := fun w => sl1 b hb w
  have z0 : (sect b 0).size = 64 := by unfold sect; rw [ByteArray.size_extract]; omega
  have z1 : (sect b 1).size = 64 := by unfold sect; rw [ByteArray.size_extract]; omega
  have kr := fun W => rread (sect b 0) z0 W hf
  have kr2 := fun W => rread (sect b 1) z1 W hf2
  have hF0 : (rdF b 0).size = 60 := rdF_size b hb (by omega)
  have hF1 : (rdF b 1).size = 60 := rdF_size b hb (by omega)
  rw [show (sect b 0).extract 0 60 = rdF b 0 from rfl] at kr
  rw [show (sect b 1).extract 0 60 = rdF b 1 from rfl] at kr2
  have bx := rdB_b (rdF b 0) hF0
  have bY := rdB_b (rdF b 1) hF1
  generalize rdF b 0 = F0 at *
  generalize rdF b 1 = F1 at *
  generalize sect b 0 = S0 at *
  generalize sect b 1 = S1 at *
  obtain ⟨X0, hX0⟩ : ∃ X, F0.extract 48 F0.size = X := ⟨_, rfl⟩
  have hXz0 : X0.size = 12 := by rw [← hX0, ByteArray.size_extract]; omega
  obtain ⟨Y0, hY0⟩ : ∃ X, X0.extract 4 X0.size = X := ⟨_, rfl⟩
  have hYz0 : Y0.size = 8 := by rw [← hY0, ByteArray.size_extract]; omega
  have hb0 : leL (X0.extract 0 4).data.toList = rdB F0 := by unfold rdB; rw [hX0]
  have hv0 : leL (Y0.extract 0 8).data.toList = rdV F0 := by unfold rdV; rw [hX0, hY0]
  have hd0 : F0.extract 0 48 = rdD F0 := rfl
  have num0 : ∀ {W w : World} {B g : Nat}, RRd W B g X0 w → Calls Tryz.prog 62 #[.pointer (some ⟨g, 0, none⟩), .int .i64 4] w fun x w' => x = .returned (.int .u64 (rdB F0)) ∧ RRd W B g Y0 w' ∧ Keeps (only g) w w' := fun h => by
    have := rrnum_4 h (by omega) (by omega); rwa [hb0, hY0] at this
  have ver0 : ∀ {W w : World} {B g : Nat}, RRd W B g Y0 w → Calls Tryz.prog 62 #[.pointer (some ⟨g, 0, none⟩), .int .i64 8] w fun x w' => x = .returned (.int .u64 (rdV F0)) ∧ RRd W B g (Y0.extract 8 Y0.size) w' ∧ Keeps (only g) w w' := fun h => by
    have := rrnum_8 h (by omega) (by omega); rwa [hv0] at this
  generalize Y0.extract 8 Y0.size = U0 at ver0
  have sl0 : ∀ w : World, (Instr.slice 9 (.string F0) (some (.int .i64 48)) none none).run Tryz.prog w = .ok (.string X0) w := fun w => by
    rw [run_slice_string_l (P := Tryz.prog) (ht := Tryz.underlying9) (kl := .i64) (l := 48) (h0 := by decide) (h1 := by omega), show (48 : Int).toNat = 48 from rfl, hX0]
  have slh0 : ∀ w : World, (Instr.slice 9 (.string F0) none (some (.int .i64 48)) none).run Tryz.prog w = .ok (.string (rdD F0)) w := fun w => by
    rw [run_slice_string_h (P := Tryz.prog) (ht := Tryz.underlying9) (kh := .i64) (h := 48) (h0 := by decide) (h2 := by omega), show (48 : Int).toNat = 48 from rfl, hd0]
  have hds0 : (rdD F0).size = 48 := by rw [← hd0, ByteArray.size_extract]; omega
  obtain ⟨X1, hX1⟩ : ∃ X, F1.extract 48 F1.size = X := ⟨_, rfl⟩
  have hXz1 : X1.size = 12 := by rw [← hX1, ByteArray.size_extract]; omega
  obtain ⟨Y1, hY1⟩ : ∃ X, X1.extract 4 X1.size = X := ⟨_, rfl⟩
  have hYz1 : Y1.size = 8 := by rw [← hY1, ByteArray.size_extract]; omega
  have hb1 : leL (X1.extract 0 4).data.toList = rdB F1 := by unfold rdB; rw [hX1]
  have hv1 : leL (Y1.extract 0 8).data.toList = rdV F1 := by unfold rdV; rw [hX1, hY1]
  have hd1 : F1.extract 0 48 = rdD F1 := rfl
  have num1 : ∀ {W w : World} {B g : Nat}, RRd W B g X1 w → Calls Tryz.prog 62 #[.pointer (some ⟨g, 0, none⟩), .int .i64 4] w fun x w' => x = .returned (.int .u64 (rdB F1)) ∧ RRd W B g Y1 w' ∧ Keeps (only g) w w' := fun h => by
    have := rrnum_4 h (by omega) (by omega); rwa [hb1, hY1] at this
  have ver1 : ∀ {W w : World} {B g : Nat}, RRd W B g Y1 w → Calls Tryz.prog 62 #[.pointer (some ⟨g, 0, none⟩), .int .i64 8] w fun x w' => x = .returned (.int .u64 (rdV F1)) ∧ RRd W B g (Y1.extract 8 Y1.size) w' ∧ Keeps (only g) w w' := fun h => by
    have := rrnum_8 h (by omega) (by omega); rwa [hv1] at this
  generalize Y1.extract 8 Y1.size = U1 at ver1
  have sl1 : ∀ w : World, (Instr.slice 9 (.string F1) (some (.int .i64 48)) none none).run Tryz.prog w = .ok (.string X1) w := fun w => by
    rw [run_slice_string_l (P := Tryz.prog) (ht := Tryz.underlying9) (kl := .i64) (l := 48) (h0 := by decide) (h1 := by omega), show (48 : Int).toNat = 48 from rfl, hX1]
  have slh1 : ∀ w : World, (Instr.slice 9 (.string F1) none (some (.int .i64 48)) none).run Tryz.prog w = .ok (.string (rdD F1)) w := fun w => by
    rw [run_slice_string_h (P := Tryz.prog) (ht := Tryz.underlying9) (kh := .i64) (h := 48) (h0 := by decide) (h2 := by omega), show (48 : Int).toNat = 48 from rfl, hd1]
  have hds1 : (rdD F1).size = 48 := by rw [← hd1, ByteArray.size_extract]; omega
  have hcat : ¬ 9223372036854775807 < (rdD F0).size + (rdD F1).size := by omega
  have eb0 : IntKind.i64.wrap (rdB F0) = rdB F0 := IntWalk.i64_in _ (by omega)
  have eb1 : IntKind.i64.wrap (rdB F1) = rdB F1 := IntWalk.i64_in _ (by omega)
  rw [hx] at num0 eb0
  rw [hy] at num1 eb1
  obtain ⟨xv, hxv⟩ : ∃ x, rdV F0 = x := ⟨_, rfl⟩
  obtain ⟨yv, hyv⟩ : ∃ x, rdV F1 = x := ⟨_, rfl⟩
  rw [hxv] at ver0 hv
  rw [hyv] at ver1 hv
  obtain ⟨xd, hxd⟩ : ∃ x, rdD F0 = x := ⟨_, rfl⟩
  obtain ⟨yd, hyd⟩ : ∃ x, rdD F1 = x := ⟨_, rfl⟩
  rw [hxd] at slh0 hcat
  rw [hyd] at slh1 hcat
  have m3 : decide (4096 ≤ n) = false := by simp; omega
  have m4 : (xv == yv) = false := by simpa using hv
  have m4b : ¬ xv = yv := hv
  unfold iagg at *
  clear hb hz hf hf2 z0 z1 bx bY hF0 hF1 hX0 hX1 hXz0 hXz1 hY0 hY1 hYz0 hYz1 hb0 hb1 hv0 hv1 hd0 hd1 hds0 hds1 hxv hxd hyd hx hy hv hyv
  have hbn := Blk.new w TIm #[.int .i64 0, .int .u64 0, .string ⟨#[]⟩]
  have hb0 := belowNew (belowSame w) (.cells #[.int .i64 0, .int .u64 0, .string ⟨#[]⟩] TIm)
  obtain ⟨W0, hW0⟩ : ∃ W0, w.alloc (.cells #[.int .i64 0, .int .u64 0, .string ⟨#[]⟩] TIm) = W0 := ⟨_, rfl⟩
  rw [hW0] at hbn hb0
  obtain ⟨r0, hr0⟩ : ∃ r, w.heap.size = r := ⟨_, rfl⟩
  rw [hr0] at hbn
  have HW0 := Lib.hid (show w.alloc (.cells #[.int .i64 0, .int .u64 0, .string ⟨#[]⟩] TIm) = W0 from hW0)
  have HR0 := Lib.hid hr0
  have HBN := Lib.hid hbn
  have HB0 := Lib.hid hb0
  clear hbn hb0 hW0 hr0
  have hb1 := belowNew (belowSame W0) (.cells ZC 5)
  have br := HBN.out.below hb1 HBN.out.lt
  have y0 : (W0.alloc (.cells ZC 5)).cell? ⟨r0, 0, none⟩ = some (.int .i64 0) := br.cell 0
  have f0 := br.frozen 0
  have y1 : (W0.alloc (.cells ZC 5)).cell? ⟨r0, 1, none⟩ = some (.int .u64 0) := br.cell 1
  have f1 := br.frozen 1
  have y2 : (W0.alloc (.cells ZC 5)).cell? ⟨r0, 2, none⟩ = some (.string ⟨#[]⟩) := br.cell 2
  have f2 := br.frozen 2
  have HBR1 := Lib.hid br
  have BW1 := Lib.hid hb1
  clear hb1 br
  go_enter Tryz.func30, Tryz.ntmps30
  go_upto_region 1 with fail
  rw [HW0.out, HR0.out]
  have hmk0 := hmk W0
  have hcv0 := hcv W0
  clear hmk hcv
  go_upto_region 11 with (first
    | (go_at_call 61; ((with_reducible refine (kr _).mono ?_); rintro x w2 ⟨rfl, hb2⟩); have BW2 := Lib.hid (belowThen BW1.out hb2); clear hb2 kr)
    | (go_at_call 61; refine (kr2 _).mono ?_; rintro x w3 ⟨rfl, hb2⟩; have BW3 := Lib.hid (belowThen BW2.out hb2); clear hb2))
  clear y0 y1 y2 f0 f1 f2
  obtain ⟨B3, hB3⟩ : ∃ B, B = w3.heap.size := ⟨_, rfl⟩
  have HB3 := Lib.hid hB3
  have ta := two_a w3 B3 (by omega) X0 X1
  have tb := two_b w3 B3 (by omega) X0 X1
  have TA := Lib.hid ta
  have TB := Lib.hid tb
  clear hB3 ta tb
  go_region_law (fail)
  all_goals
    first
      | (obtain ⟨W4, hW4⟩ : ∃ W4, ((w3.alloc (.cells #[.string X0, .int .i64 0] TRR)).alloc (.cells #[.string X1, .int .i64 0] TRR)) = W4 := ⟨_, rfl⟩
         have h4 := TA.out
         rw [hW4] at h4 ⊢
         obtain ⟨gr, hgr⟩ : ∃ g, w3.heap.size = g := ⟨_, rfl⟩
         rw [hgr] at h4 ⊢
         obtain ⟨gs, hgs⟩ : ∃ g, gr + 1 = g := ⟨_, rfl⟩
         rw [hgs] at h4 ⊢
         clear hgr hgs hW4)
      | (obtain ⟨W4, hW4⟩ : ∃ W4, ((w3.alloc (.cells #[.string X1, .int .i64 0] TRR)).alloc (.cells #[.string X0, .int .i64 0] TRR)) = W4 := ⟨_, rfl⟩
         have h4 := TB.out
         rw [hW4] at h4 ⊢
         obtain ⟨gs, hgs⟩ : ∃ g, w3.heap.size = g := ⟨_, rfl⟩
         rw [hgs] at h4 ⊢
         obtain ⟨gr, hgr⟩ : ∃ g, gs + 1 = g := ⟨_, rfl⟩
         rw [hgr] at h4 ⊢
         clear hgr hgs hW4)
    obtain ⟨hr4, hs4, hne4⟩ := h4
    have HR := Lib.hid (rrd_drew hr4)
    have HS := Lib.hid (rrd_drew hs4)
    have HNE := Lib.hid hne4
    clear hr4 hs4 hne4 TA TB
    go_wp2_with (first
      | (go_at_call 62; ((with_reducible refine (num0 HR.out).mono ?_); rintro x w5 ⟨rfl, h5, k5⟩); have HS5 := Lib.hid (rrd_other HS.out k5 h5 (fun e => HNE.out e.symm)); have HR5 := Lib.hid h5; clear h5 k5 HR HS)
      | (go_at_call 62; ((with_reducible refine (num1 HS5.out).mono ?_); rintro x w6 ⟨rfl, h6, k6⟩); have HR6 := Lib.hid (rrd_other HR5.out k6 h6 HNE.out); have HS6 := Lib.hid h6; clear h6 k6 HR5 HS5)
      | (go_at_call 62; ((with_reducible refine (ver0 HR6.out).mono ?_); rintro x w7 ⟨rfl, h7, k7⟩); have HS7 := Lib.hid (rrd_other HS6.out k7 h7 (fun e => HNE.out e.symm)); clear h7 k7 HR6 HS6)
      | (go_at_call 62; ((with_reducible refine (ver1 HS7.out).mono ?_); rintro x w8 ⟨rfl, h8, k8⟩); have hb8 := belowThen BW3.out (by have h9 := h8.2.1; rw [HB3.out] at h9; exact h9); have br := HBN.out.below hb8 HBN.out.lt; have y0 : w8.cell? ⟨r0, 0, none⟩ = some (.int .i64 0) := br.cell 0; have f0 := br.frozen 0; have y1 : w8.cell? ⟨r0, 1, none⟩ = some (.int .u64 0) := br.cell 1; have f1 := br.frozen 1; have y2 : w8.cell? ⟨r0, 2, none⟩ = some (.string ⟨#[]⟩) := br.cell 2; have f2 := br.frozen 2; have HBR := Lib.hid br; have HBE := Lib.hid hb8; clear br; clear h8 k8 HS7 hb8))
    have b4 := ((HBR.out.set_ 0 (.int .i64 0)).set_ 1 (.int .u64 0)).set_ 2 (.string ⟨#[]⟩)
    have hr0 : w.heap.size ≤ r0 := by rw [HR0.out]; exact Nat.le_refl _
    have hA : Below w.heap.size w w8 := HB0.out.trans (HBE.out.mono HB0.out.size)
    have hE : Below w.heap.size w (((w8.setCell ⟨r0, 0, none⟩ (.int .i64 0)).setCell ⟨r0, 1, none⟩ (.int .u64 0)).setCell ⟨r0, 2, none⟩ (.string ⟨#[]⟩)) := ((hA.setCell (p := ⟨r0, 0, none⟩) hr0 (.int .i64 0)).setCell (p := ⟨r0, 1, none⟩) hr0 (.int .u64 0)).setCell (p := ⟨r0, 2, none⟩) hr0 (.string ⟨#[]⟩)
    have d0 : (((w8.setCell ⟨r0, 0, none⟩ (.int .i64 0)).setCell ⟨r0, 1, none⟩ (.int .u64 0)).setCell ⟨r0, 2, none⟩ (.string ⟨#[]⟩)).cell? ⟨r0, 0, none⟩ = some (.int .i64 0) := b4.cell 0
    have d1 : (((w8.setCell ⟨r0, 0, none⟩ (.int .i64 0)).setCell ⟨r0, 1, none⟩ (.int .u64 0)).setCell ⟨r0, 2, none⟩ (.string ⟨#[]⟩)).cell? ⟨r0, 1, none⟩ = some (.int .u64 0) := b4.cell 1
    have d2 : (((w8.setCell ⟨r0, 0, none⟩ (.int .i64 0)).setCell ⟨r0, 1, none⟩ (.int .u64 0)).setCell ⟨r0, 2, none⟩ (.string ⟨#[]⟩)).cell? ⟨r0, 2, none⟩ = some (.string ⟨#[]⟩) := b4.cell 2
    exact bodyPost_ret (v := .tuple #[.agg #[.int .i64 0, .int .u64 0, .string ⟨#[]⟩], .int .i64 6]) (by simp [results, Tryz.results30, go_sem, d0, d1, d2]) rfl ⟨rfl, hE⟩
set_option maxHeartbeats 16000000 in
theorem rget_num3 (n : Int) (b : ByteArray) (hb : b.size = 128) (hz : b ≠ zerosT 128) (hf : fitsR (sect b 0) = true) (hf2 : fitsR (sect b 1) = true) (hx : rdB (rdF b 0) = n) (hy : rdB (rdF b 1) = n) (hn : 4096 ≤ n) (w : World) : Calls Tryz.prog 30 #[.int .i64 n, .string b] w fun x w' => x = .returned (.tuple #[iagg im0, .int .i64 4]) ∧ Below w.heap.size w w' := by
  have hs2 : (b.size : Int) = 128 := by omega
  have hmk : ∀ W : World, (Instr.makeSlice 77 (.int .i64 128) (.int .i64 128)).run Tryz.prog W = .ok (.slice (some ⟨W.heap.size, 0, none⟩) 128 128) (W.alloc (.cells (zeroCells 128) 5)) := zeros_make 128 (by omega)
  have hcv : ∀ W : World, (convert 77 9 (.slice (some ⟨W.heap.size, 0, none⟩) 128 128)).run Tryz.prog (W.alloc (.cells (zeroCells 128) 5)) = .ok (.string (zerosT 128)) (W.alloc (.cells (zeroCells 128) 5)) := fun W => by
    have := text_of (zeros_cells 128 W) 128 128 (by simp)
    rwa [zeros_text] at this
  generalize zeroCells 128 = ZC at *
  have he := list_ne hz
  generalize zerosT 128 = ZZ at hcv he
  have q0 := fun w => sl0 b hb w
  have q1 := fun w => sl1 b hb w
  have z0 : (sect b 0).size = 64 := by unfold sect; rw [ByteArray.size_extract]; omega
  have z1 : (sect b 1).size = 64 := by unfold sect; rw [ByteArray.size_extract]; omega
  have kr := fun W => rread (sect b 0) z0 W hf
  have kr2 := fun W => rread (sect b 1) z1 W hf2
  have hF0 : (rdF b 0).size = 60 := rdF_size b hb (by omega)
  have hF1 : (rdF b 1).size = 60 := rdF_size b hb (by omega)
  rw [show (sect b 0).extract 0 60 = rdF b 0 from rfl] at kr
  rw [show (sect b 1).extract 0 60 = rdF b 1 from rfl] at kr2
  have bx := rdB_b (rdF b 0) hF0
  have bY := rdB_b (rdF b 1) hF1
  generalize rdF b 0 = F0 at *
  generalize rdF b 1 = F1 at *
  generalize sect b 0 = S0 at *
  generalize sect b 1 = S1 at *
  obtain ⟨X0, hX0⟩ : ∃ X, F0.extract 48 F0.size = X := ⟨_, rfl⟩
  have hXz0 : X0.size = 12 := by rw [← hX0, ByteArray.size_extract]; omega
  obtain ⟨Y0, hY0⟩ : ∃ X, X0.extract 4 X0.size = X := ⟨_, rfl⟩
  have hYz0 : Y0.size = 8 := by rw [← hY0, ByteArray.size_extract]; omega
  have hb0 : leL (X0.extract 0 4).data.toList = rdB F0 := by unfold rdB; rw [hX0]
  have hv0 : leL (Y0.extract 0 8).data.toList = rdV F0 := by unfold rdV; rw [hX0, hY0]
  have hd0 : F0.extract 0 48 = rdD F0 := rfl
  have num0 : ∀ {W w : World} {B g : Nat}, RRd W B g X0 w → Calls Tryz.prog 62 #[.pointer (some ⟨g, 0, none⟩), .int .i64 4] w fun x w' => x = .returned (.int .u64 (rdB F0)) ∧ RRd W B g Y0 w' ∧ Keeps (only g) w w' := fun h => by
    have := rrnum_4 h (by omega) (by omega); rwa [hb0, hY0] at this
  have ver0 : ∀ {W w : World} {B g : Nat}, RRd W B g Y0 w → Calls Tryz.prog 62 #[.pointer (some ⟨g, 0, none⟩), .int .i64 8] w fun x w' => x = .returned (.int .u64 (rdV F0)) ∧ RRd W B g (Y0.extract 8 Y0.size) w' ∧ Keeps (only g) w w' := fun h => by
    have := rrnum_8 h (by omega) (by omega); rwa [hv0] at this
  generalize Y0.extract 8 Y0.size = U0 at ver0
  have sl0 : ∀ w : World, (Instr.slice 9 (.string F0) (some (.int .i64 48)) none none).run Tryz.prog w = .ok (.string X0) w := fun w => by
    rw [run_slice_string_l (P := Tryz.prog) (ht := Tryz.underlying9) (kl := .i64) (l := 48) (h0 := by decide) (h1 := by omega), show (48 : Int).toNat = 48 from rfl, hX0]
  have slh0 : ∀ w : World, (Instr.slice 9 (.string F0) none (some (.int .i64 48)) none).run Tryz.prog w = .ok (.string (rdD F0)) w := fun w => by
    rw [run_slice_string_h (P := Tryz.prog) (ht := Tryz.underlying9) (kh := .i64) (h := 48) (h0 := by decide) (h2 := by omega), show (48 : Int).toNat = 48 from rfl, hd0]
  have hds0 : (rdD F0).size = 48 := by rw [← hd0, ByteArray.size_extract]; omega
  obtain ⟨X1, hX1⟩ : ∃ X, F1.extract 48 F1.size = X := ⟨_, rfl⟩
  have hXz1 : X1.size = 12 := by rw [← hX1, ByteArray.size_extract]; omega
  obtain ⟨Y1, hY1⟩ : ∃ X, X1.extract 4 X1.size = X := ⟨_, rfl⟩
  have hYz1 : Y1.size = 8 := by rw [← hY1, ByteArray.size_extract]; omega
  have hb1 : leL (X1.extract 0 4).data.toList = rdB F1 := by unfold rdB; rw [hX1]
  have hv1 : leL (Y1.extract 0 8).data.toList = rdV F1 := by unfold rdV; rw [hX1, hY1]
  have hd1 : F1.extract 0 48 = rdD F1 := rfl
  have num1 : ∀ {W w : World} {B g : Nat}, RRd W B g X1 w → Calls Tryz.prog 62 #[.pointer (some ⟨g, 0, none⟩), .int .i64 4] w fun x w' => x = .returned (.int .u64 (rdB F1)) ∧ RRd W B g Y1 w' ∧ Keeps (only g) w w' := fun h => by
    have := rrnum_4 h (by omega) (by omega); rwa [hb1, hY1] at this
  have ver1 : ∀ {W w : World} {B g : Nat}, RRd W B g Y1 w → Calls Tryz.prog 62 #[.pointer (some ⟨g, 0, none⟩), .int .i64 8] w fun x w' => x = .returned (.int .u64 (rdV F1)) ∧ RRd W B g (Y1.extract 8 Y1.size) w' ∧ Keeps (only g) w w' := fun h => by
    have := rrnum_8 h (by omega) (by omega); rwa [hv1] at this
  generalize Y1.extract 8 Y1.size = U1 at ver1
  have sl1 : ∀ w : World, (Instr.slice 9 (.string F1) (some (.int .i64 48)) none none).run Tryz.prog w = .ok (.string X1) w := fun w => by
    rw [run_slice_string_l (P := Tryz.prog) (ht := Tryz.underlying9) (kl := .i64) (l := 48) (h0 := by decide) (h1 := by omega), show (48 : Int).toNat = 48 from rfl, hX1]
  have slh1 : ∀ w : World, (Instr.slice 9 (.string F1) none (some (.int .i64 48)) none).run Tryz.prog w = .ok (.string (rdD F1)) w := fun w => by
    rw [run_slice_string_h (P := Tryz.prog) (ht := Tryz.underlying9) (kh := .i64) (h := 48) (h0 := by decide) (h2 := by omega), show (48 : Int).toNat = 48 from rfl, hd1]
  have hds1 : (rdD F1).size = 48 := by rw [← hd1, ByteArray.size_extract]; omega
  have hcat : ¬ 9223372036854775807 < (rdD F0).size + (rdD F1).size := by omega
  have eb0 : IntKind.i64.wrap (rdB F0) = rdB F0 := IntWalk.i64_in _ (by omega)
  have eb1 : IntKind.i64.wrap (rdB F1) = rdB F1 := IntWalk.i64_in _ (by omega)
  rw [hx] at num0 eb0
  rw [hy] at num1 eb1
  obtain ⟨xv, hxv⟩ : ∃ x, rdV F0 = x := ⟨_, rfl⟩
  obtain ⟨yv, hyv⟩ : ∃ x, rdV F1 = x := ⟨_, rfl⟩
  rw [hxv] at ver0 
  rw [hyv] at ver1 
  obtain ⟨xd, hxd⟩ : ∃ x, rdD F0 = x := ⟨_, rfl⟩
  obtain ⟨yd, hyd⟩ : ∃ x, rdD F1 = x := ⟨_, rfl⟩
  rw [hxd] at slh0 hcat
  rw [hyd] at slh1 hcat
  have m3 : decide (4096 ≤ n) = true := by simp; omega
  unfold iagg at *
  clear hb hz hf hf2 z0 z1 bx bY hF0 hF1 hX0 hX1 hXz0 hXz1 hY0 hY1 hYz0 hYz1 hb0 hb1 hv0 hv1 hd0 hd1 hds0 hds1 hxv hxd hyd hx hy hyv
  have hbn := Blk.new w TIm #[.int .i64 0, .int .u64 0, .string ⟨#[]⟩]
  have hb0 := belowNew (belowSame w) (.cells #[.int .i64 0, .int .u64 0, .string ⟨#[]⟩] TIm)
  obtain ⟨W0, hW0⟩ : ∃ W0, w.alloc (.cells #[.int .i64 0, .int .u64 0, .string ⟨#[]⟩] TIm) = W0 := ⟨_, rfl⟩
  rw [hW0] at hbn hb0
  obtain ⟨r0, hr0⟩ : ∃ r, w.heap.size = r := ⟨_, rfl⟩
  rw [hr0] at hbn
  have HW0 := Lib.hid (show w.alloc (.cells #[.int .i64 0, .int .u64 0, .string ⟨#[]⟩] TIm) = W0 from hW0)
  have HR0 := Lib.hid hr0
  have HBN := Lib.hid hbn
  have HB0 := Lib.hid hb0
  clear hbn hb0 hW0 hr0
  have hb1 := belowNew (belowSame W0) (.cells ZC 5)
  have br := HBN.out.below hb1 HBN.out.lt
  have y0 : (W0.alloc (.cells ZC 5)).cell? ⟨r0, 0, none⟩ = some (.int .i64 0) := br.cell 0
  have f0 := br.frozen 0
  have y1 : (W0.alloc (.cells ZC 5)).cell? ⟨r0, 1, none⟩ = some (.int .u64 0) := br.cell 1
  have f1 := br.frozen 1
  have y2 : (W0.alloc (.cells ZC 5)).cell? ⟨r0, 2, none⟩ = some (.string ⟨#[]⟩) := br.cell 2
  have f2 := br.frozen 2
  have HBR1 := Lib.hid br
  have BW1 := Lib.hid hb1
  clear hb1 br
  go_enter Tryz.func30, Tryz.ntmps30
  go_upto_region 1 with fail
  rw [HW0.out, HR0.out]
  have hmk0 := hmk W0
  have hcv0 := hcv W0
  clear hmk hcv
  go_upto_region 11 with (first
    | (go_at_call 61; ((with_reducible refine (kr _).mono ?_); rintro x w2 ⟨rfl, hb2⟩); have BW2 := Lib.hid (belowThen BW1.out hb2); clear hb2 kr)
    | (go_at_call 61; refine (kr2 _).mono ?_; rintro x w3 ⟨rfl, hb2⟩; have BW3 := Lib.hid (belowThen BW2.out hb2); clear hb2))
  clear y0 y1 y2 f0 f1 f2
  obtain ⟨B3, hB3⟩ : ∃ B, B = w3.heap.size := ⟨_, rfl⟩
  have HB3 := Lib.hid hB3
  have ta := two_a w3 B3 (by omega) X0 X1
  have tb := two_b w3 B3 (by omega) X0 X1
  have TA := Lib.hid ta
  have TB := Lib.hid tb
  clear hB3 ta tb
  go_region_law (fail)
  all_goals
    first
      | (obtain ⟨W4, hW4⟩ : ∃ W4, ((w3.alloc (.cells #[.string X0, .int .i64 0] TRR)).alloc (.cells #[.string X1, .int .i64 0] TRR)) = W4 := ⟨_, rfl⟩
         have h4 := TA.out
         rw [hW4] at h4 ⊢
         obtain ⟨gr, hgr⟩ : ∃ g, w3.heap.size = g := ⟨_, rfl⟩
         rw [hgr] at h4 ⊢
         obtain ⟨gs, hgs⟩ : ∃ g, gr + 1 = g := ⟨_, rfl⟩
         rw [hgs] at h4 ⊢
         clear hgr hgs hW4)
      | (obtain ⟨W4, hW4⟩ : ∃ W4, ((w3.alloc (.cells #[.string X1, .int .i64 0] TRR)).alloc (.cells #[.string X0, .int .i64 0] TRR)) = W4 := ⟨_, rfl⟩
         have h4 := TB.out
         rw [hW4] at h4 ⊢
         obtain ⟨gs, hgs⟩ : ∃ g, w3.heap.size = g := ⟨_, rfl⟩
         rw [hgs] at h4 ⊢
         obtain ⟨gr, hgr⟩ : ∃ g, gs + 1 = g := ⟨_, rfl⟩
         rw [hgr] at h4 ⊢
         clear hgr hgs hW4)
    obtain ⟨hr4, hs4, hne4⟩ := h4
    have HR := Lib.hid (rrd_drew hr4)
    have HS := Lib.hid (rrd_drew hs4)
    have HNE := Lib.hid hne4
    clear hr4 hs4 hne4 TA TB
    go_wp2_with (first
      | (go_at_call 62; ((with_reducible refine (num0 HR.out).mono ?_); rintro x w5 ⟨rfl, h5, k5⟩); have HS5 := Lib.hid (rrd_other HS.out k5 h5 (fun e => HNE.out e.symm)); have HR5 := Lib.hid h5; clear h5 k5 HR HS)
      | (go_at_call 62; ((with_reducible refine (num1 HS5.out).mono ?_); rintro x w6 ⟨rfl, h6, k6⟩); have HR6 := Lib.hid (rrd_other HR5.out k6 h6 HNE.out); have HS6 := Lib.hid h6; clear h6 k6 HR5 HS5)
      | (go_at_call 62; ((with_reducible refine (ver0 HR6.out).mono ?_); rintro x w7 ⟨rfl, h7, k7⟩); have HS7 := Lib.hid (rrd_other HS6.out k7 h7 (fun e => HNE.out e.symm)); clear h7 k7 HR6 HS6)
      | (go_at_call 62; ((with_reducible refine (ver1 HS7.out).mono ?_); rintro x w8 ⟨rfl, h8, k8⟩); have hb8 := belowThen BW3.out (by have h9 := h8.2.1; rw [HB3.out] at h9; exact h9); have br := HBN.out.below hb8 HBN.out.lt; have y0 : w8.cell? ⟨r0, 0, none⟩ = some (.int .i64 0) := br.cell 0; have f0 := br.frozen 0; have y1 : w8.cell? ⟨r0, 1, none⟩ = some (.int .u64 0) := br.cell 1; have f1 := br.frozen 1; have y2 : w8.cell? ⟨r0, 2, none⟩ = some (.string ⟨#[]⟩) := br.cell 2; have f2 := br.frozen 2; have HBR := Lib.hid br; have HBE := Lib.hid hb8; clear br; clear h8 k8 HS7 hb8))
    have b4 := ((HBR.out.set_ 0 (.int .i64 0)).set_ 1 (.int .u64 0)).set_ 2 (.string ⟨#[]⟩)
    have hr0 : w.heap.size ≤ r0 := by rw [HR0.out]; exact Nat.le_refl _
    have hA : Below w.heap.size w w8 := HB0.out.trans (HBE.out.mono HB0.out.size)
    have hE : Below w.heap.size w (((w8.setCell ⟨r0, 0, none⟩ (.int .i64 0)).setCell ⟨r0, 1, none⟩ (.int .u64 0)).setCell ⟨r0, 2, none⟩ (.string ⟨#[]⟩)) := ((hA.setCell (p := ⟨r0, 0, none⟩) hr0 (.int .i64 0)).setCell (p := ⟨r0, 1, none⟩) hr0 (.int .u64 0)).setCell (p := ⟨r0, 2, none⟩) hr0 (.string ⟨#[]⟩)
    have d0 : (((w8.setCell ⟨r0, 0, none⟩ (.int .i64 0)).setCell ⟨r0, 1, none⟩ (.int .u64 0)).setCell ⟨r0, 2, none⟩ (.string ⟨#[]⟩)).cell? ⟨r0, 0, none⟩ = some (.int .i64 0) := b4.cell 0
    have d1 : (((w8.setCell ⟨r0, 0, none⟩ (.int .i64 0)).setCell ⟨r0, 1, none⟩ (.int .u64 0)).setCell ⟨r0, 2, none⟩ (.string ⟨#[]⟩)).cell? ⟨r0, 1, none⟩ = some (.int .u64 0) := b4.cell 1
    have d2 : (((w8.setCell ⟨r0, 0, none⟩ (.int .i64 0)).setCell ⟨r0, 1, none⟩ (.int .u64 0)).setCell ⟨r0, 2, none⟩ (.string ⟨#[]⟩)).cell? ⟨r0, 2, none⟩ = some (.string ⟨#[]⟩) := b4.cell 2
    exact bodyPost_ret (v := .tuple #[.agg #[.int .i64 0, .int .u64 0, .string ⟨#[]⟩], .int .i64 4]) (by simp [results, Tryz.results30, go_sem, d0, d1, d2]) rfl ⟨rfl, hE⟩
set_option maxHeartbeats 16000000 in
theorem rget_num2 (n : Int) (b : ByteArray) (hb : b.size = 128) (hz : b ≠ zerosT 128) (hf : fitsR (sect b 0) = true) (hf2 : fitsR (sect b 1) = true) (hx : rdB (rdF b 0) = n) (hy : rdB (rdF b 1) ≠ n) (w : World) : Calls Tryz.prog 30 #[.int .i64 n, .string b] w fun x w' => x = .returned (.tuple #[iagg im0, .int .i64 4]) ∧ Below w.heap.size w w' := by
  have hs2 : (b.size : Int) = 128 := by omega
  have hmk : ∀ W : World, (Instr.makeSlice 77 (.int .i64 128) (.int .i64 128)).run Tryz.prog W = .ok (.slice (some ⟨W.heap.size, 0, none⟩) 128 128) (W.alloc (.cells (zeroCells 128) 5)) := zeros_make 128 (by omega)
  have hcv : ∀ W : World, (convert 77 9 (.slice (some ⟨W.heap.size, 0, none⟩) 128 128)).run Tryz.prog (W.alloc (.cells (zeroCells 128) 5)) = .ok (.string (zerosT 128)) (W.alloc (.cells (zeroCells 128) 5)) := fun W => by
    have := text_of (zeros_cells 128 W) 128 128 (by simp)
    rwa [zeros_text] at this
  generalize zeroCells 128 = ZC at *
  have he := list_ne hz
  generalize zerosT 128 = ZZ at hcv he
  have q0 := fun w => sl0 b hb w
  have q1 := fun w => sl1 b hb w
  have z0 : (sect b 0).size = 64 := by unfold sect; rw [ByteArray.size_extract]; omega
  have z1 : (sect b 1).size = 64 := by unfold sect; rw [ByteArray.size_extract]; omega
  have kr := fun W => rread (sect b 0) z0 W hf
  have kr2 := fun W => rread (sect b 1) z1 W hf2
  have hF0 : (rdF b 0).size = 60 := rdF_size b hb (by omega)
  have hF1 : (rdF b 1).size = 60 := rdF_size b hb (by omega)
  rw [show (sect b 0).extract 0 60 = rdF b 0 from rfl] at kr
  rw [show (sect b 1).extract 0 60 = rdF b 1 from rfl] at kr2
  have bx := rdB_b (rdF b 0) hF0
  have bY := rdB_b (rdF b 1) hF1
  generalize rdF b 0 = F0 at *
  generalize rdF b 1 = F1 at *
  generalize sect b 0 = S0 at *
  generalize sect b 1 = S1 at *
  obtain ⟨X0, hX0⟩ : ∃ X, F0.extract 48 F0.size = X := ⟨_, rfl⟩
  have hXz0 : X0.size = 12 := by rw [← hX0, ByteArray.size_extract]; omega
  obtain ⟨Y0, hY0⟩ : ∃ X, X0.extract 4 X0.size = X := ⟨_, rfl⟩
  have hYz0 : Y0.size = 8 := by rw [← hY0, ByteArray.size_extract]; omega
  have hb0 : leL (X0.extract 0 4).data.toList = rdB F0 := by unfold rdB; rw [hX0]
  have hv0 : leL (Y0.extract 0 8).data.toList = rdV F0 := by unfold rdV; rw [hX0, hY0]
  have hd0 : F0.extract 0 48 = rdD F0 := rfl
  have num0 : ∀ {W w : World} {B g : Nat}, RRd W B g X0 w → Calls Tryz.prog 62 #[.pointer (some ⟨g, 0, none⟩), .int .i64 4] w fun x w' => x = .returned (.int .u64 (rdB F0)) ∧ RRd W B g Y0 w' ∧ Keeps (only g) w w' := fun h => by
    have := rrnum_4 h (by omega) (by omega); rwa [hb0, hY0] at this
  have ver0 : ∀ {W w : World} {B g : Nat}, RRd W B g Y0 w → Calls Tryz.prog 62 #[.pointer (some ⟨g, 0, none⟩), .int .i64 8] w fun x w' => x = .returned (.int .u64 (rdV F0)) ∧ RRd W B g (Y0.extract 8 Y0.size) w' ∧ Keeps (only g) w w' := fun h => by
    have := rrnum_8 h (by omega) (by omega); rwa [hv0] at this
  generalize Y0.extract 8 Y0.size = U0 at ver0
  have sl0 : ∀ w : World, (Instr.slice 9 (.string F0) (some (.int .i64 48)) none none).run Tryz.prog w = .ok (.string X0) w := fun w => by
    rw [run_slice_string_l (P := Tryz.prog) (ht := Tryz.underlying9) (kl := .i64) (l := 48) (h0 := by decide) (h1 := by omega), show (48 : Int).toNat = 48 from rfl, hX0]
  have slh0 : ∀ w : World, (Instr.slice 9 (.string F0) none (some (.int .i64 48)) none).run Tryz.prog w = .ok (.string (rdD F0)) w := fun w => by
    rw [run_slice_string_h (P := Tryz.prog) (ht := Tryz.underlying9) (kh := .i64) (h := 48) (h0 := by decide) (h2 := by omega), show (48 : Int).toNat = 48 from rfl, hd0]
  have hds0 : (rdD F0).size = 48 := by rw [← hd0, ByteArray.size_extract]; omega
  obtain ⟨X1, hX1⟩ : ∃ X, F1.extract 48 F1.size = X := ⟨_, rfl⟩
  have hXz1 : X1.size = 12 := by rw [← hX1, ByteArray.size_extract]; omega
  obtain ⟨Y1, hY1⟩ : ∃ X, X1.extract 4 X1.size = X := ⟨_, rfl⟩
  have hYz1 : Y1.size = 8 := by rw [← hY1, ByteArray.size_extract]; omega
  have hb1 : leL (X1.extract 0 4).data.toList = rdB F1 := by unfold rdB; rw [hX1]
  have hv1 : leL (Y1.extract 0 8).data.toList = rdV F1 := by unfold rdV; rw [hX1, hY1]
  have hd1 : F1.extract 0 48 = rdD F1 := rfl
  have num1 : ∀ {W w : World} {B g : Nat}, RRd W B g X1 w → Calls Tryz.prog 62 #[.pointer (some ⟨g, 0, none⟩), .int .i64 4] w fun x w' => x = .returned (.int .u64 (rdB F1)) ∧ RRd W B g Y1 w' ∧ Keeps (only g) w w' := fun h => by
    have := rrnum_4 h (by omega) (by omega); rwa [hb1, hY1] at this
  have ver1 : ∀ {W w : World} {B g : Nat}, RRd W B g Y1 w → Calls Tryz.prog 62 #[.pointer (some ⟨g, 0, none⟩), .int .i64 8] w fun x w' => x = .returned (.int .u64 (rdV F1)) ∧ RRd W B g (Y1.extract 8 Y1.size) w' ∧ Keeps (only g) w w' := fun h => by
    have := rrnum_8 h (by omega) (by omega); rwa [hv1] at this
  generalize Y1.extract 8 Y1.size = U1 at ver1
  have sl1 : ∀ w : World, (Instr.slice 9 (.string F1) (some (.int .i64 48)) none none).run Tryz.prog w = .ok (.string X1) w := fun w => by
    rw [run_slice_string_l (P := Tryz.prog) (ht := Tryz.underlying9) (kl := .i64) (l := 48) (h0 := by decide) (h1 := by omega), show (48 : Int).toNat = 48 from rfl, hX1]
  have slh1 : ∀ w : World, (Instr.slice 9 (.string F1) none (some (.int .i64 48)) none).run Tryz.prog w = .ok (.string (rdD F1)) w := fun w => by
    rw [run_slice_string_h (P := Tryz.prog) (ht := Tryz.underlying9) (kh := .i64) (h := 48) (h0 := by decide) (h2 := by omega), show (48 : Int).toNat = 48 from rfl, hd1]
  have hds1 : (rdD F1).size = 48 := by rw [← hd1, ByteArray.size_extract]; omega
  have hcat : ¬ 9223372036854775807 < (rdD F0).size + (rdD F1).size := by omega
  have eb0 : IntKind.i64.wrap (rdB F0) = rdB F0 := IntWalk.i64_in _ (by omega)
  have eb1 : IntKind.i64.wrap (rdB F1) = rdB F1 := IntWalk.i64_in _ (by omega)
  rw [hx] at num0 eb0
  obtain ⟨yb, hyb⟩ : ∃ x, rdB F1 = x := ⟨_, rfl⟩
  rw [hyb] at num1 eb1 hy
  obtain ⟨xv, hxv⟩ : ∃ x, rdV F0 = x := ⟨_, rfl⟩
  obtain ⟨yv, hyv⟩ : ∃ x, rdV F1 = x := ⟨_, rfl⟩
  rw [hxv] at ver0 
  rw [hyv] at ver1 
  obtain ⟨xd, hxd⟩ : ∃ x, rdD F0 = x := ⟨_, rfl⟩
  obtain ⟨yd, hyd⟩ : ∃ x, rdD F1 = x := ⟨_, rfl⟩
  rw [hxd] at slh0 hcat
  rw [hyd] at slh1 hcat
  have m2 : (yb == n) = false := by simpa using hy
  have m2b : ¬ yb = n := hy
  unfold iagg at *
  clear hb hz hf hf2 z0 z1 bx bY hF0 hF1 hX0 hX1 hXz0 hXz1 hY0 hY1 hYz0 hYz1 hb0 hb1 hv0 hv1 hd0 hd1 hds0 hds1 hxv hxd hyd hx hy hyb hyv
  have hbn := Blk.new w TIm #[.int .i64 0, .int .u64 0, .string ⟨#[]⟩]
  have hb0 := belowNew (belowSame w) (.cells #[.int .i64 0, .int .u64 0, .string ⟨#[]⟩] TIm)
  obtain ⟨W0, hW0⟩ : ∃ W0, w.alloc (.cells #[.int .i64 0, .int .u64 0, .string ⟨#[]⟩] TIm) = W0 := ⟨_, rfl⟩
  rw [hW0] at hbn hb0
  obtain ⟨r0, hr0⟩ : ∃ r, w.heap.size = r := ⟨_, rfl⟩
  rw [hr0] at hbn
  have HW0 := Lib.hid (show w.alloc (.cells #[.int .i64 0, .int .u64 0, .string ⟨#[]⟩] TIm) = W0 from hW0)
  have HR0 := Lib.hid hr0
  have HBN := Lib.hid hbn
  have HB0 := Lib.hid hb0
  clear hbn hb0 hW0 hr0
  have hb1 := belowNew (belowSame W0) (.cells ZC 5)
  have br := HBN.out.below hb1 HBN.out.lt
  have y0 : (W0.alloc (.cells ZC 5)).cell? ⟨r0, 0, none⟩ = some (.int .i64 0) := br.cell 0
  have f0 := br.frozen 0
  have y1 : (W0.alloc (.cells ZC 5)).cell? ⟨r0, 1, none⟩ = some (.int .u64 0) := br.cell 1
  have f1 := br.frozen 1
  have y2 : (W0.alloc (.cells ZC 5)).cell? ⟨r0, 2, none⟩ = some (.string ⟨#[]⟩) := br.cell 2
  have f2 := br.frozen 2
  have HBR1 := Lib.hid br
  have BW1 := Lib.hid hb1
  clear hb1 br
  go_enter Tryz.func30, Tryz.ntmps30
  go_upto_region 1 with fail
  rw [HW0.out, HR0.out]
  have hmk0 := hmk W0
  have hcv0 := hcv W0
  clear hmk hcv
  go_upto_region 11 with (first
    | (go_at_call 61; ((with_reducible refine (kr _).mono ?_); rintro x w2 ⟨rfl, hb2⟩); have BW2 := Lib.hid (belowThen BW1.out hb2); clear hb2 kr)
    | (go_at_call 61; refine (kr2 _).mono ?_; rintro x w3 ⟨rfl, hb2⟩; have BW3 := Lib.hid (belowThen BW2.out hb2); clear hb2))
  clear y0 y1 y2 f0 f1 f2
  obtain ⟨B3, hB3⟩ : ∃ B, B = w3.heap.size := ⟨_, rfl⟩
  have HB3 := Lib.hid hB3
  have ta := two_a w3 B3 (by omega) X0 X1
  have tb := two_b w3 B3 (by omega) X0 X1
  have TA := Lib.hid ta
  have TB := Lib.hid tb
  clear hB3 ta tb
  go_region_law (fail)
  all_goals
    first
      | (obtain ⟨W4, hW4⟩ : ∃ W4, ((w3.alloc (.cells #[.string X0, .int .i64 0] TRR)).alloc (.cells #[.string X1, .int .i64 0] TRR)) = W4 := ⟨_, rfl⟩
         have h4 := TA.out
         rw [hW4] at h4 ⊢
         obtain ⟨gr, hgr⟩ : ∃ g, w3.heap.size = g := ⟨_, rfl⟩
         rw [hgr] at h4 ⊢
         obtain ⟨gs, hgs⟩ : ∃ g, gr + 1 = g := ⟨_, rfl⟩
         rw [hgs] at h4 ⊢
         clear hgr hgs hW4)
      | (obtain ⟨W4, hW4⟩ : ∃ W4, ((w3.alloc (.cells #[.string X1, .int .i64 0] TRR)).alloc (.cells #[.string X0, .int .i64 0] TRR)) = W4 := ⟨_, rfl⟩
         have h4 := TB.out
         rw [hW4] at h4 ⊢
         obtain ⟨gs, hgs⟩ : ∃ g, w3.heap.size = g := ⟨_, rfl⟩
         rw [hgs] at h4 ⊢
         obtain ⟨gr, hgr⟩ : ∃ g, gs + 1 = g := ⟨_, rfl⟩
         rw [hgr] at h4 ⊢
         clear hgr hgs hW4)
    obtain ⟨hr4, hs4, hne4⟩ := h4
    have HR := Lib.hid (rrd_drew hr4)
    have HS := Lib.hid (rrd_drew hs4)
    have HNE := Lib.hid hne4
    clear hr4 hs4 hne4 TA TB
    go_wp2_with (first
      | (go_at_call 62; ((with_reducible refine (num0 HR.out).mono ?_); rintro x w5 ⟨rfl, h5, k5⟩); have HS5 := Lib.hid (rrd_other HS.out k5 h5 (fun e => HNE.out e.symm)); have HR5 := Lib.hid h5; clear h5 k5 HR HS)
      | (go_at_call 62; ((with_reducible refine (num1 HS5.out).mono ?_); rintro x w6 ⟨rfl, h6, k6⟩); have HR6 := Lib.hid (rrd_other HR5.out k6 h6 HNE.out); have HS6 := Lib.hid h6; clear h6 k6 HR5 HS5)
      | (go_at_call 62; ((with_reducible refine (ver0 HR6.out).mono ?_); rintro x w7 ⟨rfl, h7, k7⟩); have HS7 := Lib.hid (rrd_other HS6.out k7 h7 (fun e => HNE.out e.symm)); clear h7 k7 HR6 HS6)
      | (go_at_call 62; ((with_reducible refine (ver1 HS7.out).mono ?_); rintro x w8 ⟨rfl, h8, k8⟩); have hb8 := belowThen BW3.out (by have h9 := h8.2.1; rw [HB3.out] at h9; exact h9); have br := HBN.out.below hb8 HBN.out.lt; have y0 : w8.cell? ⟨r0, 0, none⟩ = some (.int .i64 0) := br.cell 0; have f0 := br.frozen 0; have y1 : w8.cell? ⟨r0, 1, none⟩ = some (.int .u64 0) := br.cell 1; have f1 := br.frozen 1; have y2 : w8.cell? ⟨r0, 2, none⟩ = some (.string ⟨#[]⟩) := br.cell 2; have f2 := br.frozen 2; have HBR := Lib.hid br; have HBE := Lib.hid hb8; clear br; clear h8 k8 HS7 hb8))
    have b4 := ((HBR.out.set_ 0 (.int .i64 0)).set_ 1 (.int .u64 0)).set_ 2 (.string ⟨#[]⟩)
    have hr0 : w.heap.size ≤ r0 := by rw [HR0.out]; exact Nat.le_refl _
    have hA : Below w.heap.size w w8 := HB0.out.trans (HBE.out.mono HB0.out.size)
    have hE : Below w.heap.size w (((w8.setCell ⟨r0, 0, none⟩ (.int .i64 0)).setCell ⟨r0, 1, none⟩ (.int .u64 0)).setCell ⟨r0, 2, none⟩ (.string ⟨#[]⟩)) := ((hA.setCell (p := ⟨r0, 0, none⟩) hr0 (.int .i64 0)).setCell (p := ⟨r0, 1, none⟩) hr0 (.int .u64 0)).setCell (p := ⟨r0, 2, none⟩) hr0 (.string ⟨#[]⟩)
    have d0 : (((w8.setCell ⟨r0, 0, none⟩ (.int .i64 0)).setCell ⟨r0, 1, none⟩ (.int .u64 0)).setCell ⟨r0, 2, none⟩ (.string ⟨#[]⟩)).cell? ⟨r0, 0, none⟩ = some (.int .i64 0) := b4.cell 0
    have d1 : (((w8.setCell ⟨r0, 0, none⟩ (.int .i64 0)).setCell ⟨r0, 1, none⟩ (.int .u64 0)).setCell ⟨r0, 2, none⟩ (.string ⟨#[]⟩)).cell? ⟨r0, 1, none⟩ = some (.int .u64 0) := b4.cell 1
    have d2 : (((w8.setCell ⟨r0, 0, none⟩ (.int .i64 0)).setCell ⟨r0, 1, none⟩ (.int .u64 0)).setCell ⟨r0, 2, none⟩ (.string ⟨#[]⟩)).cell? ⟨r0, 2, none⟩ = some (.string ⟨#[]⟩) := b4.cell 2
    exact bodyPost_ret (v := .tuple #[.agg #[.int .i64 0, .int .u64 0, .string ⟨#[]⟩], .int .i64 4]) (by simp [results, Tryz.results30, go_sem, d0, d1, d2]) rfl ⟨rfl, hE⟩
set_option maxHeartbeats 16000000 in
theorem rget_num1 (n : Int) (b : ByteArray) (hb : b.size = 128) (hz : b ≠ zerosT 128) (hf : fitsR (sect b 0) = true) (hf2 : fitsR (sect b 1) = true) (hx : rdB (rdF b 0) ≠ n) (w : World) : Calls Tryz.prog 30 #[.int .i64 n, .string b] w fun x w' => x = .returned (.tuple #[iagg im0, .int .i64 4]) ∧ Below w.heap.size w w' := by
  have hs2 : (b.size : Int) = 128 := by omega
  have hmk : ∀ W : World, (Instr.makeSlice 77 (.int .i64 128) (.int .i64 128)).run Tryz.prog W = .ok (.slice (some ⟨W.heap.size, 0, none⟩) 128 128) (W.alloc (.cells (zeroCells 128) 5)) := zeros_make 128 (by omega)
  have hcv : ∀ W : World, (convert 77 9 (.slice (some ⟨W.heap.size, 0, none⟩) 128 128)).run Tryz.prog (W.alloc (.cells (zeroCells 128) 5)) = .ok (.string (zerosT 128)) (W.alloc (.cells (zeroCells 128) 5)) := fun W => by
    have := text_of (zeros_cells 128 W) 128 128 (by simp)
    rwa [zeros_text] at this
  generalize zeroCells 128 = ZC at *
  have he := list_ne hz
  generalize zerosT 128 = ZZ at hcv he
  have q0 := fun w => sl0 b hb w
  have q1 := fun w => sl1 b hb w
  have z0 : (sect b 0).size = 64 := by unfold sect; rw [ByteArray.size_extract]; omega
  have z1 : (sect b 1).size = 64 := by unfold sect; rw [ByteArray.size_extract]; omega
  have kr := fun W => rread (sect b 0) z0 W hf
  have kr2 := fun W => rread (sect b 1) z1 W hf2
  have hF0 : (rdF b 0).size = 60 := rdF_size b hb (by omega)
  have hF1 : (rdF b 1).size = 60 := rdF_size b hb (by omega)
  rw [show (sect b 0).extract 0 60 = rdF b 0 from rfl] at kr
  rw [show (sect b 1).extract 0 60 = rdF b 1 from rfl] at kr2
  have bx := rdB_b (rdF b 0) hF0
  have bY := rdB_b (rdF b 1) hF1
  generalize rdF b 0 = F0 at *
  generalize rdF b 1 = F1 at *
  generalize sect b 0 = S0 at *
  generalize sect b 1 = S1 at *
  obtain ⟨X0, hX0⟩ : ∃ X, F0.extract 48 F0.size = X := ⟨_, rfl⟩
  have hXz0 : X0.size = 12 := by rw [← hX0, ByteArray.size_extract]; omega
  obtain ⟨Y0, hY0⟩ : ∃ X, X0.extract 4 X0.size = X := ⟨_, rfl⟩
  have hYz0 : Y0.size = 8 := by rw [← hY0, ByteArray.size_extract]; omega
  have hb0 : leL (X0.extract 0 4).data.toList = rdB F0 := by unfold rdB; rw [hX0]
  have hv0 : leL (Y0.extract 0 8).data.toList = rdV F0 := by unfold rdV; rw [hX0, hY0]
  have hd0 : F0.extract 0 48 = rdD F0 := rfl
  have num0 : ∀ {W w : World} {B g : Nat}, RRd W B g X0 w → Calls Tryz.prog 62 #[.pointer (some ⟨g, 0, none⟩), .int .i64 4] w fun x w' => x = .returned (.int .u64 (rdB F0)) ∧ RRd W B g Y0 w' ∧ Keeps (only g) w w' := fun h => by
    have := rrnum_4 h (by omega) (by omega); rwa [hb0, hY0] at this
  have ver0 : ∀ {W w : World} {B g : Nat}, RRd W B g Y0 w → Calls Tryz.prog 62 #[.pointer (some ⟨g, 0, none⟩), .int .i64 8] w fun x w' => x = .returned (.int .u64 (rdV F0)) ∧ RRd W B g (Y0.extract 8 Y0.size) w' ∧ Keeps (only g) w w' := fun h => by
    have := rrnum_8 h (by omega) (by omega); rwa [hv0] at this
  generalize Y0.extract 8 Y0.size = U0 at ver0
  have sl0 : ∀ w : World, (Instr.slice 9 (.string F0) (some (.int .i64 48)) none none).run Tryz.prog w = .ok (.string X0) w := fun w => by
    rw [run_slice_string_l (P := Tryz.prog) (ht := Tryz.underlying9) (kl := .i64) (l := 48) (h0 := by decide) (h1 := by omega), show (48 : Int).toNat = 48 from rfl, hX0]
  have slh0 : ∀ w : World, (Instr.slice 9 (.string F0) none (some (.int .i64 48)) none).run Tryz.prog w = .ok (.string (rdD F0)) w := fun w => by
    rw [run_slice_string_h (P := Tryz.prog) (ht := Tryz.underlying9) (kh := .i64) (h := 48) (h0 := by decide) (h2 := by omega), show (48 : Int).toNat = 48 from rfl, hd0]
  have hds0 : (rdD F0).size = 48 := by rw [← hd0, ByteArray.size_extract]; omega
  obtain ⟨X1, hX1⟩ : ∃ X, F1.extract 48 F1.size = X := ⟨_, rfl⟩
  have hXz1 : X1.size = 12 := by rw [← hX1, ByteArray.size_extract]; omega
  obtain ⟨Y1, hY1⟩ : ∃ X, X1.extract 4 X1.size = X := ⟨_, rfl⟩
  have hYz1 : Y1.size = 8 := by rw [← hY1, ByteArray.size_extract]; omega
  have hb1 : leL (X1.extract 0 4).data.toList = rdB F1 := by unfold rdB; rw [hX1]
  have hv1 : leL (Y1.extract 0 8).data.toList = rdV F1 := by unfold rdV; rw [hX1, hY1]
  have hd1 : F1.extract 0 48 = rdD F1 := rfl
  have num1 : ∀ {W w : World} {B g : Nat}, RRd W B g X1 w → Calls Tryz.prog 62 #[.pointer (some ⟨g, 0, none⟩), .int .i64 4] w fun x w' => x = .returned (.int .u64 (rdB F1)) ∧ RRd W B g Y1 w' ∧ Keeps (only g) w w' := fun h => by
    have := rrnum_4 h (by omega) (by omega); rwa [hb1, hY1] at this
  have ver1 : ∀ {W w : World} {B g : Nat}, RRd W B g Y1 w → Calls Tryz.prog 62 #[.pointer (some ⟨g, 0, none⟩), .int .i64 8] w fun x w' => x = .returned (.int .u64 (rdV F1)) ∧ RRd W B g (Y1.extract 8 Y1.size) w' ∧ Keeps (only g) w w' := fun h => by
    have := rrnum_8 h (by omega) (by omega); rwa [hv1] at this
  generalize Y1.extract 8 Y1.size = U1 at ver1
  have sl1 : ∀ w : World, (Instr.slice 9 (.string F1) (some (.int .i64 48)) none none).run Tryz.prog w = .ok (.string X1) w := fun w => by
    rw [run_slice_string_l (P := Tryz.prog) (ht := Tryz.underlying9) (kl := .i64) (l := 48) (h0 := by decide) (h1 := by omega), show (48 : Int).toNat = 48 from rfl, hX1]
  have slh1 : ∀ w : World, (Instr.slice 9 (.string F1) none (some (.int .i64 48)) none).run Tryz.prog w = .ok (.string (rdD F1)) w := fun w => by
    rw [run_slice_string_h (P := Tryz.prog) (ht := Tryz.underlying9) (kh := .i64) (h := 48) (h0 := by decide) (h2 := by omega), show (48 : Int).toNat = 48 from rfl, hd1]
  have hds1 : (rdD F1).size = 48 := by rw [← hd1, ByteArray.size_extract]; omega
  have hcat : ¬ 9223372036854775807 < (rdD F0).size + (rdD F1).size := by omega
  have eb0 : IntKind.i64.wrap (rdB F0) = rdB F0 := IntWalk.i64_in _ (by omega)
  have eb1 : IntKind.i64.wrap (rdB F1) = rdB F1 := IntWalk.i64_in _ (by omega)
  obtain ⟨xb, hxb⟩ : ∃ x, rdB F0 = x := ⟨_, rfl⟩
  rw [hxb] at num0 hx eb0
  obtain ⟨yb, hyb⟩ : ∃ x, rdB F1 = x := ⟨_, rfl⟩
  rw [hyb] at num1 eb1 
  obtain ⟨xv, hxv⟩ : ∃ x, rdV F0 = x := ⟨_, rfl⟩
  obtain ⟨yv, hyv⟩ : ∃ x, rdV F1 = x := ⟨_, rfl⟩
  rw [hxv] at ver0 
  rw [hyv] at ver1 
  obtain ⟨xd, hxd⟩ : ∃ x, rdD F0 = x := ⟨_, rfl⟩
  obtain ⟨yd, hyd⟩ : ∃ x, rdD F1 = x := ⟨_, rfl⟩
  rw [hxd] at slh0 hcat
  rw [hyd] at slh1 hcat
  have m1 : (xb == n) = false := by simpa using hx
  have m1b : ¬ xb = n := hx
  unfold iagg at *
  clear hb hz hf hf2 z0 z1 bx bY hF0 hF1 hX0 hX1 hXz0 hXz1 hY0 hY1 hYz0 hYz1 hb0 hb1 hv0 hv1 hd0 hd1 hds0 hds1 hxv hxd hyd hx hxb hyb hyv
  have hbn := Blk.new w TIm #[.int .i64 0, .int .u64 0, .string ⟨#[]⟩]
  have hb0 := belowNew (belowSame w) (.cells #[.int .i64 0, .int .u64 0, .string ⟨#[]⟩] TIm)
  obtain ⟨W0, hW0⟩ : ∃ W0, w.alloc (.cells #[.int .i64 0, .int .u64 0, .string ⟨#[]⟩] TIm) = W0 := ⟨_, rfl⟩
  rw [hW0] at hbn hb0
  obtain ⟨r0, hr0⟩ : ∃ r, w.heap.size = r := ⟨_, rfl⟩
  rw [hr0] at hbn
  have HW0 := Lib.hid (show w.alloc (.cells #[.int .i64 0, .int .u64 0, .string ⟨#[]⟩] TIm) = W0 from hW0)
  have HR0 := Lib.hid hr0
  have HBN := Lib.hid hbn
  have HB0 := Lib.hid hb0
  clear hbn hb0 hW0 hr0
  have hb1 := belowNew (belowSame W0) (.cells ZC 5)
  have br := HBN.out.below hb1 HBN.out.lt
  have y0 : (W0.alloc (.cells ZC 5)).cell? ⟨r0, 0, none⟩ = some (.int .i64 0) := br.cell 0
  have f0 := br.frozen 0
  have y1 : (W0.alloc (.cells ZC 5)).cell? ⟨r0, 1, none⟩ = some (.int .u64 0) := br.cell 1
  have f1 := br.frozen 1
  have y2 : (W0.alloc (.cells ZC 5)).cell? ⟨r0, 2, none⟩ = some (.string ⟨#[]⟩) := br.cell 2
  have f2 := br.frozen 2
  have HBR1 := Lib.hid br
  have BW1 := Lib.hid hb1
  clear hb1 br
  go_enter Tryz.func30, Tryz.ntmps30
  go_upto_region 1 with fail
  rw [HW0.out, HR0.out]
  have hmk0 := hmk W0
  have hcv0 := hcv W0
  clear hmk hcv
  go_upto_region 11 with (first
    | (go_at_call 61; ((with_reducible refine (kr _).mono ?_); rintro x w2 ⟨rfl, hb2⟩); have BW2 := Lib.hid (belowThen BW1.out hb2); clear hb2 kr)
    | (go_at_call 61; refine (kr2 _).mono ?_; rintro x w3 ⟨rfl, hb2⟩; have BW3 := Lib.hid (belowThen BW2.out hb2); clear hb2))
  clear y0 y1 y2 f0 f1 f2
  obtain ⟨B3, hB3⟩ : ∃ B, B = w3.heap.size := ⟨_, rfl⟩
  have HB3 := Lib.hid hB3
  have ta := two_a w3 B3 (by omega) X0 X1
  have tb := two_b w3 B3 (by omega) X0 X1
  have TA := Lib.hid ta
  have TB := Lib.hid tb
  clear hB3 ta tb
  go_region_law (fail)
  all_goals
    first
      | (obtain ⟨W4, hW4⟩ : ∃ W4, ((w3.alloc (.cells #[.string X0, .int .i64 0] TRR)).alloc (.cells #[.string X1, .int .i64 0] TRR)) = W4 := ⟨_, rfl⟩
         have h4 := TA.out
         rw [hW4] at h4 ⊢
         obtain ⟨gr, hgr⟩ : ∃ g, w3.heap.size = g := ⟨_, rfl⟩
         rw [hgr] at h4 ⊢
         obtain ⟨gs, hgs⟩ : ∃ g, gr + 1 = g := ⟨_, rfl⟩
         rw [hgs] at h4 ⊢
         clear hgr hgs hW4)
      | (obtain ⟨W4, hW4⟩ : ∃ W4, ((w3.alloc (.cells #[.string X1, .int .i64 0] TRR)).alloc (.cells #[.string X0, .int .i64 0] TRR)) = W4 := ⟨_, rfl⟩
         have h4 := TB.out
         rw [hW4] at h4 ⊢
         obtain ⟨gs, hgs⟩ : ∃ g, w3.heap.size = g := ⟨_, rfl⟩
         rw [hgs] at h4 ⊢
         obtain ⟨gr, hgr⟩ : ∃ g, gs + 1 = g := ⟨_, rfl⟩
         rw [hgr] at h4 ⊢
         clear hgr hgs hW4)
    obtain ⟨hr4, hs4, hne4⟩ := h4
    have HR := Lib.hid (rrd_drew hr4)
    have HS := Lib.hid (rrd_drew hs4)
    have HNE := Lib.hid hne4
    clear hr4 hs4 hne4 TA TB
    go_wp2_with (first
      | (go_at_call 62; ((with_reducible refine (num0 HR.out).mono ?_); rintro x w5 ⟨rfl, h5, k5⟩); have HS5 := Lib.hid (rrd_other HS.out k5 h5 (fun e => HNE.out e.symm)); have HR5 := Lib.hid h5; clear h5 k5 HR HS)
      | (go_at_call 62; ((with_reducible refine (num1 HS5.out).mono ?_); rintro x w6 ⟨rfl, h6, k6⟩); have HR6 := Lib.hid (rrd_other HR5.out k6 h6 HNE.out); have HS6 := Lib.hid h6; clear h6 k6 HR5 HS5)
      | (go_at_call 62; ((with_reducible refine (ver0 HR6.out).mono ?_); rintro x w7 ⟨rfl, h7, k7⟩); have HS7 := Lib.hid (rrd_other HS6.out k7 h7 (fun e => HNE.out e.symm)); clear h7 k7 HR6 HS6)
      | (go_at_call 62; ((with_reducible refine (ver1 HS7.out).mono ?_); rintro x w8 ⟨rfl, h8, k8⟩); have hb8 := belowThen BW3.out (by have h9 := h8.2.1; rw [HB3.out] at h9; exact h9); have br := HBN.out.below hb8 HBN.out.lt; have y0 : w8.cell? ⟨r0, 0, none⟩ = some (.int .i64 0) := br.cell 0; have f0 := br.frozen 0; have y1 : w8.cell? ⟨r0, 1, none⟩ = some (.int .u64 0) := br.cell 1; have f1 := br.frozen 1; have y2 : w8.cell? ⟨r0, 2, none⟩ = some (.string ⟨#[]⟩) := br.cell 2; have f2 := br.frozen 2; have HBR := Lib.hid br; have HBE := Lib.hid hb8; clear br; clear h8 k8 HS7 hb8))
    have b4 := ((HBR.out.set_ 0 (.int .i64 0)).set_ 1 (.int .u64 0)).set_ 2 (.string ⟨#[]⟩)
    have hr0 : w.heap.size ≤ r0 := by rw [HR0.out]; exact Nat.le_refl _
    have hA : Below w.heap.size w w8 := HB0.out.trans (HBE.out.mono HB0.out.size)
    have hE : Below w.heap.size w (((w8.setCell ⟨r0, 0, none⟩ (.int .i64 0)).setCell ⟨r0, 1, none⟩ (.int .u64 0)).setCell ⟨r0, 2, none⟩ (.string ⟨#[]⟩)) := ((hA.setCell (p := ⟨r0, 0, none⟩) hr0 (.int .i64 0)).setCell (p := ⟨r0, 1, none⟩) hr0 (.int .u64 0)).setCell (p := ⟨r0, 2, none⟩) hr0 (.string ⟨#[]⟩)
    have d0 : (((w8.setCell ⟨r0, 0, none⟩ (.int .i64 0)).setCell ⟨r0, 1, none⟩ (.int .u64 0)).setCell ⟨r0, 2, none⟩ (.string ⟨#[]⟩)).cell? ⟨r0, 0, none⟩ = some (.int .i64 0) := b4.cell 0
    have d1 : (((w8.setCell ⟨r0, 0, none⟩ (.int .i64 0)).setCell ⟨r0, 1, none⟩ (.int .u64 0)).setCell ⟨r0, 2, none⟩ (.string ⟨#[]⟩)).cell? ⟨r0, 1, none⟩ = some (.int .u64 0) := b4.cell 1
    have d2 : (((w8.setCell ⟨r0, 0, none⟩ (.int .i64 0)).setCell ⟨r0, 1, none⟩ (.int .u64 0)).setCell ⟨r0, 2, none⟩ (.string ⟨#[]⟩)).cell? ⟨r0, 2, none⟩ = some (.string ⟨#[]⟩) := b4.cell 2
    exact bodyPost_ret (v := .tuple #[.agg #[.int .i64 0, .int .u64 0, .string ⟨#[]⟩], .int .i64 4]) (by simp [results, Tryz.results30, go_sem, d0, d1, d2]) rfl ⟨rfl, hE⟩
theorem rget_any (n : Int) (b : ByteArray) (w : World) : Calls Tryz.prog 30 #[.int .i64 n, .string b] w fun x w' => x = .returned (.tuple #[iagg (getR n b).1, .int .i64 (getR n b).2]) ∧ Below w.heap.size w w' := by
  unfold getR
  by_cases h1 : b.size = 128
  · rw [if_pos h1]
    by_cases h2 : b = zerosT 128
    · rw [if_pos h2, h2]; exact rget_zero n w
    · rw [if_neg h2]
      by_cases h3 : fitsR (sect b 0) = true
      · rw [if_pos h3]
        by_cases h4 : fitsR (sect b 1) = true
        · rw [if_pos h4]
          by_cases h5 : rdB (rdF b 0) = n ∧ rdB (rdF b 1) = n ∧ n < 4096
          · rw [if_pos h5]
            by_cases h6 : rdV (rdF b 0) = rdV (rdF b 1)
            · rw [if_pos h6]; exact rget_good n b h1 h2 h3 h4 h5.1 h5.2.1 h5.2.2 h6 w
            · rw [if_neg h6]; exact rget_vers n b h1 h2 h3 h4 h5.1 h5.2.1 h5.2.2 h6 w
          · rw [if_neg h5]
            by_cases k1 : rdB (rdF b 0) = n
            · by_cases k2 : rdB (rdF b 1) = n
              · exact rget_num3 n b h1 h2 h3 h4 k1 k2 (by omega) w
              · exact rget_num2 n b h1 h2 h3 h4 k1 k2 w
            · exact rget_num1 n b h1 h2 h3 h4 k1 w
        · rw [if_neg h4]; exact rget_none1 n b h1 h2 h3 (by simpa using h4) (fun e => h4 (e ▸ h3)) w
      · rw [if_neg h3]; exact rget_none0 n b h1 h2 (by simpa using h3) w
  · rw [if_neg h1]; exact rget_size n b h1 w
end Go.Proofs.YtcbhdggjcelmaaaGreat.BK

/- A disk that is nil: each call turns nothing. A disk all of whose cells are 0. No condition. -/
namespace Go.Proofs.YtcbhdggjcelmaaaGreat.DK
set_option maxRecDepth 100000
open Go.RowKit Go.Proofs.YtcbhdggjcelmaaaGreat.MI
set_option linter.unusedVariables false
set_option linter.unusedSimpArgs false

theorem on_nil (w : World) : Calls Tryz.prog 55 #[.pointer none] w fun e w' => e = .returned (.bool false) ∧ w' = w := by
  go_enter Tryz.func55, Tryz.ntmps55
  go_wp2
  go_ret
  exact ⟨rfl, rfl⟩
theorem may_nil (n : Int) (w : World) : Calls Tryz.prog 41 #[.pointer none, .int .i64 n] w fun e w' => e = .returned (.int .i64 14) ∧ w' = w := by
  go_enter Tryz.func41, Tryz.ntmps41
  go_wp2_with (first
    | (go_at_call 55; refine (on_nil _).mono ?_; rintro e w1 ⟨rfl, rfl⟩))
  go_ret
  exact ⟨rfl, rfl⟩
theorem arm_nil (n : Int) (A : Option Addr) (m c : Nat) (w : World) : Calls Tryz.prog 92 #[.pointer none, .int .i64 n, .slice A m c] w fun e w' => e = .returned (.tuple #[]) ∧ w' = w := by
  go_enter Tryz.func92, Tryz.ntmps92
  go_wp2
  refine bodyPost_end (results_none rfl _ _ _) rfl ?_
  exact ⟨rfl, rfl⟩
theorem write_nil (n e q : Int) (s : ByteArray) (w : World) : Calls Tryz.prog 24 #[.pointer none, .int .i64 n, .int .u64 e, .int .i64 q, .string s] w fun e w' => e = .returned (.int .i64 14) ∧ w' = w := by
  go_enter Tryz.func24, Tryz.ntmps24
  go_wp2_with (first
    | (go_at_call 41; refine (may_nil _ _).mono ?_; rintro e w1 ⟨rfl, rfl⟩))
  go_ret
  exact ⟨rfl, rfl⟩
theorem barrier_nil (n e : Int) (w : World) : Calls Tryz.prog 66 #[.pointer none, .int .i64 n, .int .u64 e] w fun e w' => e = .returned (.int .i64 14) ∧ w' = w := by
  go_enter Tryz.func66, Tryz.ntmps66
  go_wp2_with (first
    | (go_at_call 41; refine (may_nil _ _).mono ?_; rintro e w1 ⟨rfl, rfl⟩))
  go_ret
  exact ⟨rfl, rfl⟩
theorem admit_nil (n e : Int) (w : World) : Calls Tryz.prog 16 #[.pointer none, .int .i64 n, .int .u64 e] w fun e w' => e = .returned (.int .i64 14) ∧ w' = w := by
  go_enter Tryz.func16, Tryz.ntmps16
  go_wp2_with (first
    | (go_at_call 41; refine (may_nil _ _).mono ?_; rintro e w1 ⟨rfl, rfl⟩))
  go_ret
  exact ⟨rfl, rfl⟩
theorem fence_nil (n : Int) (w : World) : Calls Tryz.prog 36 #[.pointer none, .int .i64 n] w fun e w' => e = .returned (.int .i64 14) ∧ w' = w := by
  go_enter Tryz.func36, Tryz.ntmps36
  go_wp2_with (first
    | (go_at_call 41; refine (may_nil _ _).mono ?_; rintro e w1 ⟨rfl, rfl⟩))
  go_ret
  exact ⟨rfl, rfl⟩
theorem put_nil (n e : Int) (w : World) : Calls Tryz.prog 37 #[.pointer none, .int .i64 n, .int .u64 e] w fun e w' => e = .returned (.int .i64 14) ∧ w' = w := by
  go_enter Tryz.func37, Tryz.ntmps37
  go_wp2_with (first
    | (go_at_call 41; refine (may_nil _ _).mono ?_; rintro e w1 ⟨rfl, rfl⟩))
  go_ret
  exact ⟨rfl, rfl⟩
theorem last_nil (w : World) : Calls Tryz.prog 38 #[.pointer none] w fun e w' => e = .returned (.int .u64 0) ∧ w' = w := by
  go_enter Tryz.func38, Tryz.ntmps38
  go_wp2
  go_ret
  exact ⟨rfl, rfl⟩
theorem cut_nil (A : Option Addr) (m c : Nat) (w : World) : Calls Tryz.prog 70 #[.pointer none, .slice A m c] w fun e w' => e = .returned (.int .i64 0) ∧ w' = w := by
  go_enter Tryz.func70, Tryz.ntmps70
  go_wp2_with (first
    | (go_at_call 92; refine (arm_nil _ _ _ _ _).mono ?_; rintro e w1 ⟨rfl, rfl⟩)
    | (go_at_call 55; refine (on_nil _).mono ?_; rintro e w1 ⟨rfl, rfl⟩))
  go_ret
  exact ⟨rfl, rfl⟩
theorem sectors_nil (w : World) : Calls Tryz.prog 34 #[.pointer none] w fun e w' => e = .returned (.int .i64 0) ∧ w' = w := by
  go_enter Tryz.func34, Tryz.ntmps34
  go_wp2
  go_ret
  exact ⟨rfl, rfl⟩
theorem read_nil (q n : Int) (w : World) : Calls Tryz.prog 27 #[.pointer none, .int .i64 q, .int .i64 n] w fun e w' => e = .returned (.tuple #[.string ⟨#[]⟩, .int .i64 14]) ∧ w' = w := by
  go_enter Tryz.func27, Tryz.ntmps27
  go_wp2_with (first
    | (go_at_call 55; refine (on_nil _).mono ?_; rintro e w1 ⟨rfl, rfl⟩))
  go_ret2
  exact ⟨rfl, rfl⟩

/-! ### a disk of zeros -/
theorem on_zero {w : World} {g : Nat} (c : w.cell? ⟨g, 1, none⟩ = some (.bool false)) : Calls Tryz.prog 55 #[.pointer (some ⟨g, 0, none⟩)] w fun e w' => e = .returned (.bool false) ∧ w' = w := by
  go_enter Tryz.func55, Tryz.ntmps55
  go_wp2
  go_ret
  exact ⟨rfl, rfl⟩
theorem read_zero {w : World} {g : Nat} (c : w.cell? ⟨g, 1, none⟩ = some (.bool false)) (q n : Int) : Calls Tryz.prog 27 #[.pointer (some ⟨g, 0, none⟩), .int .i64 q, .int .i64 n] w fun e w' => e = .returned (.tuple #[.string ⟨#[]⟩, .int .i64 14]) ∧ w' = w := by
  have k := on_zero c
  clear c
  go_enter Tryz.func27, Tryz.ntmps27
  go_wp2_with (go_at_call 55; refine k.mono ?_; rintro e w1 ⟨rfl, rfl⟩)
  go_ret2
  exact ⟨rfl, rfl⟩
theorem last_zero {w : World} {g : Nat} (c : w.cell? ⟨g, 40, none⟩ = some (.int .u64 0)) : Calls Tryz.prog 38 #[.pointer (some ⟨g, 0, none⟩)] w fun e w' => e = .returned (.int .u64 0) ∧ w' = w := by
  go_enter Tryz.func38, Tryz.ntmps38
  go_wp2
  go_ret
  exact ⟨rfl, rfl⟩
theorem sectors_zero {w : World} {g : Nat} (c : w.cell? ⟨g, 0, none⟩ = some (.int .i64 0)) : Calls Tryz.prog 34 #[.pointer (some ⟨g, 0, none⟩)] w fun e w' => e = .returned (.int .i64 0) ∧ w' = w := by
  go_enter Tryz.func34, Tryz.ntmps34
  go_wp2
  go_ret
  exact ⟨rfl, rfl⟩
end Go.Proofs.YtcbhdggjcelmaaaGreat.DK

/- BlockAt, of both sides, in range and out of it (printed by gen_bk10.py). No condition. -/
namespace Go.Proofs.YtcbhdggjcelmaaaGreat.SU
set_option maxRecDepth 100000
open Go.RowKit
set_option linter.unusedVariables false
set_option linter.unusedSimpArgs false
theorem block_bad (s : Sh) (h : Good s) (x : Int) (hx : ¬ (0 ≤ x ∧ x < s.b)) (w : World) : Calls Tryz.prog 22 #[sagg s, .int .i64 x] w fun e w' => e = .returned (.tuple #[.int .i64 0, .int .i64 30]) ∧ Below w.heap.size w w' := by
  have hv := (valid_iff s).2 h
  have hb := h.b
  have kv := fun W => valid_any s W
  rw [hv] at kv
  have ki := fun W => in_any x 0 (s.b - 1) W
  rw [show inB x 0 (s.b - 1) = false by unfold inB; simp; omega] at ki
  unfold sagg at *
  have e0 : IntKind.i64.wrap (s.b - 1) = s.b - 1 := IntWalk.i64_in _ (by omega)
  have hbn := Blk.new w TLa (scells s)
  have hb0 := (Below.refl _ w).alloc (Nat.le_refl _) (.cells (scells s) TLa)
  have HBN := Lib.hid hbn
  have HB0 := Lib.hid hb0
  clear hbn hb0 h hv
  go_enter Tryz.func22, Tryz.ntmps22
  go_wp2_with (first
    | (go_at_call 33; refine (kv _).mono ?_; rintro y w1 ⟨rfl, hb1⟩; have bk := HBN.out.below hb1 HBN.out.lt; have c0 : w1.cell? ⟨w.heap.size, 0, none⟩ = some (.int .i64 s.n) := bk.cell 0; have c1 : w1.cell? ⟨w.heap.size, 1, none⟩ = some (.int .i64 s.b) := bk.cell 1; have c2 : w1.cell? ⟨w.heap.size, 2, none⟩ = some (.int .i64 s.l) := bk.cell 2; have HB1 := Lib.hid (HB0.out.trans (hb1.mono HB0.out.size)); clear bk hb1)
    | (go_at_call 49; refine (ki _).mono ?_; rintro y w2 ⟨rfl, rfl⟩))
  go_ret2
  exact ⟨rfl, HB1.out⟩
end Go.Proofs.YtcbhdggjcelmaaaGreat.SU
namespace Go.Proofs.YtcbhdggjcelmaaaGreat.BK
open Go.RowKit Go.Proofs.YtcbhdggjcelmaaaGreat.MI Go.Proofs.YtcbhdggjcelmaaaGreat.WI Go.Proofs.YtcbhdggjcelmaaaGreat.SM Go.Proofs.YtcbhdggjcelmaaaGreat.DK Go.Proofs.YtcbhdggjcelmaaaGreat.SU Go.Proofs.YtcbhdggjcelmaaaGreat.RD
theorem block_bad0 (x : Int) (hx : ¬ (0 ≤ x ∧ x < 10)) (w : World) : Calls Tryz.prog 22 #[sagg sh0, .int .i64 x] w fun e w' => e = .returned (.tuple #[.int .i64 0, .int .i64 30]) ∧ Below w.heap.size w w' := block_bad sh0 good0 x hx w
theorem rblock_ok (x : Int) (hx : 0 ≤ x ∧ x < 10) (w : World) : Calls Tryz.prog 25 #[sagg sh0, .int .i64 x] w fun e w' => e = .returned (.tuple #[.int .i64 (17 + 2 * x), .int .i64 0]) ∧ Below w.heap.size w w' := by
  have kv := fun W => rvalid0 W
  have d1 : decide (x < 0) = false := by simp; omega
  have d2 : decide (10 ≤ x) = false := by simp; omega
  have e3 : IntKind.i64.wrap (2 * x) = 2 * x := IntWalk.i64_in _ (by omega)
  have e4 : IntKind.i64.wrap (17 + 2 * x) = 17 + 2 * x := IntWalk.i64_in _ (by omega)
  have hbn := Blk.new w TSh (scells sh0)
  have hb0 := belowNew (belowSame w) (.cells (scells sh0) TSh)
  have HBN := Lib.hid hbn
  have HB0 := Lib.hid hb0
  unfold sagg sh0 at *
  clear hbn hb0 hx
  go_enter Tryz.func25, Tryz.ntmps25
  go_wp2_with (go_at_call 32; refine (kv _).mono ?_; rintro y w1 ⟨rfl, hb1⟩; have bk := HBN.out.below hb1 HBN.out.lt; have c0 : w1.cell? ⟨w.heap.size, 0, none⟩ = some (.int .i64 2) := bk.cell 0; have c1 : w1.cell? ⟨w.heap.size, 1, none⟩ = some (.int .i64 10) := bk.cell 1; have c2 : w1.cell? ⟨w.heap.size, 2, none⟩ = some (.int .i64 8) := bk.cell 2; have B1 := Lib.hid (belowThen HB0.out hb1); clear bk hb1)
  go_ret2
  exact ⟨rfl, B1.out⟩
theorem rblock_low (x : Int) (hx : x < 0) (w : World) : Calls Tryz.prog 25 #[sagg sh0, .int .i64 x] w fun e w' => e = .returned (.tuple #[.int .i64 0, .int .i64 30]) ∧ Below w.heap.size w w' := by
  have kv := fun W => rvalid0 W
  have d1 : decide (x < 0) = true := by simp; omega
  have hbn := Blk.new w TSh (scells sh0)
  have hb0 := belowNew (belowSame w) (.cells (scells sh0) TSh)
  have HBN := Lib.hid hbn
  have HB0 := Lib.hid hb0
  unfold sagg sh0 at *
  clear hbn hb0 hx
  go_enter Tryz.func25, Tryz.ntmps25
  go_wp2_with (go_at_call 32; refine (kv _).mono ?_; rintro y w1 ⟨rfl, hb1⟩; have bk := HBN.out.below hb1 HBN.out.lt; have c0 : w1.cell? ⟨w.heap.size, 0, none⟩ = some (.int .i64 2) := bk.cell 0; have c1 : w1.cell? ⟨w.heap.size, 1, none⟩ = some (.int .i64 10) := bk.cell 1; have c2 : w1.cell? ⟨w.heap.size, 2, none⟩ = some (.int .i64 8) := bk.cell 2; have B1 := Lib.hid (belowThen HB0.out hb1); clear bk hb1)
  go_ret2
  exact ⟨rfl, B1.out⟩
theorem rblock_high (x : Int) (hx : 10 ≤ x) (w : World) : Calls Tryz.prog 25 #[sagg sh0, .int .i64 x] w fun e w' => e = .returned (.tuple #[.int .i64 0, .int .i64 30]) ∧ Below w.heap.size w w' := by
  have kv := fun W => rvalid0 W
  have d1 : decide (x < 0) = false := by simp; omega
  have d2 : decide (10 ≤ x) = true := by simp; omega
  have hbn := Blk.new w TSh (scells sh0)
  have hb0 := belowNew (belowSame w) (.cells (scells sh0) TSh)
  have HBN := Lib.hid hbn
  have HB0 := Lib.hid hb0
  unfold sagg sh0 at *
  clear hbn hb0 hx
  go_enter Tryz.func25, Tryz.ntmps25
  go_wp2_with (go_at_call 32; refine (kv _).mono ?_; rintro y w1 ⟨rfl, hb1⟩; have bk := HBN.out.below hb1 HBN.out.lt; have c0 : w1.cell? ⟨w.heap.size, 0, none⟩ = some (.int .i64 2) := bk.cell 0; have c1 : w1.cell? ⟨w.heap.size, 1, none⟩ = some (.int .i64 10) := bk.cell 1; have c2 : w1.cell? ⟨w.heap.size, 2, none⟩ = some (.int .i64 8) := bk.cell 2; have B1 := Lib.hid (belowThen HB0.out hb1); clear bk hb1)
  go_ret2
  exact ⟨rfl, B1.out⟩
theorem rblock_bad0 (x : Int) (hx : ¬ (0 ≤ x ∧ x < 10)) (w : World) : Calls Tryz.prog 25 #[sagg sh0, .int .i64 x] w fun e w' => e = .returned (.tuple #[.int .i64 0, .int .i64 30]) ∧ Below w.heap.size w w' := by
  by_cases h : x < 0
  · exact rblock_low x h w
  · exact rblock_high x (by omega) w
end Go.Proofs.YtcbhdggjcelmaaaGreat.BK
