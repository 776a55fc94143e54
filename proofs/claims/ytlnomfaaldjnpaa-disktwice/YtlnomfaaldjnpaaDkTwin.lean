/- The disk: Twin. No condition. -/
import Derived.Test.YtlnomfaaldjnpaaDkRun
import Derived.Test.YtlnomfaaldjnpaaDkClone
import Derived.Deep.WholeRow
namespace Go.Proofs.Ytlnomfaaldjnpaa.DK
open Go.RowKit Go.Proofs.Ytlnomfaaldjnpaa.MI
set_option linter.unusedVariables false
set_option linter.unusedSimpArgs false
section
variable {w w' : World} {B g N : Nat} {p : Pl} {D : Dk}
theorem waits_one (ws : List Wr) : ∀ u ∈ ws.flatMap wval, u.oneCell' = true := by
  intro u hu
  obtain ⟨x, _, hx⟩ := List.mem_flatMap.1 hu
  unfold wval at hx
  simp at hx
  rcases hx with rfl | rfl | rfl | rfl <;> rfl
/-- What stands behind the three copies, and the stores of them. -/
theorem twin_end {W1 w2 w3 w4 : World} {n m : Nat} {a : Option Addr} {c : Nat} (h : DiskAt w B g p N D) (hW1 : W1 = w.alloc (.cells (dcells D p.nb p.lb (.slice p.wa D.waits.length p.wc) (.slice p.sa p.sn p.sc)) TD))
    (h2 : MapAt scode Try.prog TI w2 W1.drew.heap.size n D.now) (hn : n ≤ N) (hb2 : Below W1.drew.heap.size W1.drew w2) (h3 : MapAt wcode Try.prog TI w3 w2.heap.size m D.lasts) (hm : m + D.waits.length ≤ N) (hb3 : Below w2.heap.size w2 w3)
    (h4 : w4.ownsRow w3.heap.size TW 4 (.slice a D.waits.length c) D.waits.length (D.waits.flatMap wval)) (hb4 : Below w3.heap.size w3 w4) :
    (∀ i, w4.frozen? ⟨w.heap.size, i, none⟩ = false) ∧ Blk w4 w.heap.size TD (dcells D p.nb p.lb (.slice p.wa D.waits.length p.wc) (.slice p.sa p.sn p.sc)) ∧
      Own w w.heap.size N D (((w4.setCell ⟨w.heap.size, 3, none⟩ (.map (some W1.drew.heap.size))).setCell ⟨w.heap.size, 4, none⟩ (.map (some w2.heap.size))).setCell ⟨w.heap.size, 5, none⟩ (.slice a D.waits.length c)) := by
  have hb1 : Blk W1 w.heap.size TD (dcells D p.nb p.lb (.slice p.wa D.waits.length p.wc) (.slice p.sa p.sn p.sc)) := hW1 ▸ Blk.new w TD _
  have s1 : W1.heap.size = w.heap.size + 1 := by rw [hW1]; simp
  have s1' : W1.drew.heap.size = w.heap.size + 1 := s1
  have s2 := hb2.size
  have s3 := hb3.size
  have s4 := hb4.size
  have hlt2 := h2.lt
  have hlt3 := h3.lt
  have bA : Below w.heap.size w W1 := hW1 ▸ belowNew (belowSame w) _
  have bB : Below w.heap.size w w2 := bA.trans ((show Below W1.heap.size W1 w2 from belowUndrew hb2).mono (by omega))
  have bC : Below w.heap.size w w3 := bB.trans (hb3.mono (by omega))
  have bD : Below w.heap.size w w4 := bC.trans (hb4.mono (by omega))
  have b4 : Blk w4 w.heap.size TD (dcells D p.nb p.lb (.slice p.wa D.waits.length p.wc) (.slice p.sa p.sn p.sc)) := ((hb1.below (belowUndrew hb2) (by omega)).below hb3 (by omega)).below hb4 (by omega)
  have m2 : MapAt scode Try.prog TI w4 W1.drew.heap.size n D.now := (h2.keeps (Keeps.of_below hb3 (fun _ => False)) id).keeps (Keeps.of_below hb4 (fun _ => False)) id
  have m3 : MapAt wcode Try.prog TI w4 w2.heap.size m D.lasts := h3.keeps (Keeps.of_below hb4 (fun _ => False)) id
  have k1 : Keeps (only w.heap.size) w4 (((w4.setCell ⟨w.heap.size, 3, none⟩ (.map (some W1.drew.heap.size))).setCell ⟨w.heap.size, 4, none⟩ (.map (some w2.heap.size))).setCell ⟨w.heap.size, 5, none⟩ (.slice a D.waits.length c)) := ((keep1 w4 w.heap.size 3 _).cell_ 4 _).cell_ 5 _
  have hnew : ∀ k, (Value.slice a D.waits.length c).ownBlock = some k → w3.heap.size ≤ k := fun k hk => (h4.lt k hk).1
  have hE : Below w.heap.size w (((w4.setCell ⟨w.heap.size, 3, none⟩ (.map (some W1.drew.heap.size))).setCell ⟨w.heap.size, 4, none⟩ (.map (some w2.heap.size))).setCell ⟨w.heap.size, 5, none⟩ (.slice a D.waits.length c)) :=
    ((bD.setCell (p := ⟨w.heap.size, 3, none⟩) (Nat.le_refl _) _).setCell (p := ⟨w.heap.size, 4, none⟩) (Nat.le_refl _) _).setCell (p := ⟨w.heap.size, 5, none⟩) (Nat.le_refl _) _
  refine ⟨fun i => b4.frozen i, b4, ⟨W1.drew.heap.size, w2.heap.size, a, c, p.sa, p.sn, p.sc⟩, ?_, hE⟩
  refine ⟨((b4.set_ 3 _).set_ 4 _).set_ 5 _, ⟨n, hn, m2.keeps k1 (fun e => ?_)⟩, ⟨m, hm, m3.keeps k1 (fun e => ?_)⟩, own_keeps (own_base h4 (fun k hk => by have := hnew k hk; omega)) k1 (fun k hk e => ?_), h.stays.old (by decide) hE, h.sn, fun k hk1 hk2 => ?_, fun k hk => ⟨trivial, Nat.lt_of_lt_of_le (h.spl k hk).2 hE.size⟩, Nat.le_refl _, ?_, ?_, ?_, h.seq, h.sane⟩
  · have : W1.drew.heap.size = w.heap.size := e
    omega
  · have : w2.heap.size = w.heap.size := e
    omega
  · have h1 := hnew k hk
    have : k = w.heap.size := e
    omega
  · have h1 := (h.spl k hk1).2
    rcases hk2 with e | e | e | e
    · omega
    · have e' : k = W1.drew.heap.size := e
      omega
    · have e' : k = w2.heap.size := e
      omega
    · have := hnew k (by rw [own_blk]; exact e)
      omega
  · show w.heap.size ≤ W1.drew.heap.size
    omega
  · show w.heap.size ≤ w2.heap.size
    omega
  · show W1.drew.heap.size ≠ w2.heap.size
    omega
set_option maxHeartbeats 8000000 in
set_option maxRecDepth 100000 in
theorem twin_any (h : DiskAt w B g p N D) (hN : N ≤ 100000000) : Calls Try.prog 31 #[.pointer (some ⟨g, 0, none⟩)] w fun e w' => ∃ t, e = .returned (.pointer (some ⟨t, 0, none⟩)) ∧ Own w t N D w' := by
  obtain ⟨cs, hcs⟩ : ∃ cs, dcells D p.nb p.lb (.slice p.wa D.waits.length p.wc) (.slice p.sa p.sn p.sc) = cs := ⟨_, rfl⟩
  have hsz : cs.size = 44 := by rw [← hcs]; rfl
  have hone : cs.all (·.oneCell') = true := by rw [← hcs]; simp [dcells, Value.oneCell']
  have hblk : Blk w g TD cs := hcs ▸ h.blk
  have d3 : w.cell? ⟨g, 3, none⟩ = some (.map (some p.nb)) := h.blk.cell 3
  have d4 : w.cell? ⟨g, 4, none⟩ = some (.map (some p.lb)) := h.blk.cell 4
  have d5 : w.cell? ⟨g, 5, none⟩ = some (.slice p.wa D.waits.length p.wc) := h.blk.cell 5
  have hi : (Try.prog.info? TD).map (·.size) = some cs.size := by rw [hsz]; kernel_rfl
  have HCS := Lib.hid hcs
  have HBK := Lib.hid hblk
  have HI := Lib.hid hi
  have HO := Lib.hid hone
  have HSZ := Lib.hid hsz
  clear hcs hblk hi hone hsz
  have H := Lib.hid h
  have hlt := h.blk.lt
  obtain ⟨n, hn, hmn⟩ := h.now
  obtain ⟨m, hm, hmm⟩ := h.lasts
  have hlw := Lies.of_own h.waits
  have hca := own_caps h.waits
  have HMN := Lib.hid hmn
  have HMM := Lib.hid hmm
  have HLW := Lib.hid hlw
  have HCA := Lib.hid hca
  clear h hmn hmm hlw hca
  go_enter Try.func31, Try.ntmps31
  go_upto_region 4 with (first
    | (refine wpList_load_row rfl TD (.tmp 7) rfl g rfl TD cs (0, 0) _ HBK.out Try.underlying59 rfl HI.out ?_)
    | (refine wpList_plain rfl fun _ hK => wp_store_row TD (.tmp 3) (.tmp 8) rfl w.heap.size cs rfl rfl TD #[.int .i64 0, .bool false, .int .i64 0, .map none, .map none, .slice none 0 0, .int .u64 0, .int .u64 0, .int .u64 0, .int .u64 0, .int .u64 0, .int .u64 0, .int .u64 0, .int .u64 0, .int .u64 0, .int .u64 0, .int .u64 0, .int .u64 0, .int .u64 0, .int .u64 0, .int .u64 0, .int .u64 0, .int .u64 0, .int .u64 0, .int .u64 0, .int .u64 0, .int .u64 0, .int .u64 0, .int .u64 0, .int .u64 0, .int .u64 0, .int .u64 0, .int .u64 0, .int .u64 0, .int .u64 0, .int .u64 0, .int .u64 0, .int .u64 0, .int .u64 0, .int .u64 0, .int .u64 0, .bool false, .int .i64 0, .slice none 0 0] (heap_alloc_last w _) HI.out (by rw [HSZ.out]; rfl) HO.out (hK _ _ ?_); rw [World.setRow_alloc_new]))
  obtain ⟨W1, hW1⟩ : ∃ W1, W1 = w.alloc (.cells cs TD) := ⟨_, rfl⟩
  have hb1 : Below w.heap.size w W1 := hW1 ▸ belowNew (belowSame w) _
  have HW1 : Hid (W1 = w.alloc (.cells (dcells D p.nb p.lb (.slice p.wa D.waits.length p.wc) (.slice p.sa p.sn p.sc)) TD)) := Lib.hid (HCS.out ▸ hW1)
  rw [← hW1]
  have g3 : W1.cell? ⟨g, 3, none⟩ = some (.map (some p.nb)) := (hb1.cell (p := ⟨g, 3, none⟩) hlt).trans d3
  have g4 : W1.cell? ⟨g, 4, none⟩ = some (.map (some p.lb)) := (hb1.cell (p := ⟨g, 4, none⟩) hlt).trans d4
  have g5 : W1.cell? ⟨g, 5, none⟩ = some (.slice p.wa D.waits.length p.wc) := (hb1.cell (p := ⟨g, 5, none⟩) hlt).trans d5
  have G3 := Lib.hid g3
  have G4 := Lib.hid g4
  have G5 := Lib.hid g5
  have HB1 := Lib.hid hb1
  have HLT := Lib.hid hlt
  clear d3 d4 d5 hW1 hb1 hlt
  have kc1 := mclone_str W1.drew p.nb n D.now (HMN.out.keeps (Keeps.of_below HB1.out (fun _ => False)) (fun h => h)).drew
  have hs1 : W1.heap.size = w.heap.size + 1 := by rw [HW1.out]; simp
  obtain ⟨x, hx⟩ : ∃ x, w.heap.size = x := ⟨_, rfl⟩
  rw [hx]
  have hgx : g ≠ x := by have := HLT.out; omega
  have HXX := Lib.hid hx
  clear hs1 hx
  go_region_held3 (fun W => W.cell? ⟨g, 3, none⟩ = some (.map (some p.nb)) ∧ W.cell? ⟨g, 4, none⟩ = some (.map (some p.lb)) ∧ W.cell? ⟨g, 5, none⟩ = some (.slice p.wa D.waits.length p.wc)) (first | go_keep | (refine ⟨?_, ?_, ?_⟩ <;> (rw [World.cell?_setCell_far _ _ _ _ (show x ≠ g from fun e => hgx e.symm)]; first | assumption | (rw [World.cell?_setCell_far _ _ _ _ (show x ≠ g from fun e => hgx e.symm)]; first | assumption | (rw [World.cell?_setCell_far _ _ _ _ (show x ≠ g from fun e => hgx e.symm)]; assumption))))) (first
    | (go_at_call 46; refine kc1.mono ?_; rintro e w2 ⟨rfl, hm2, hb2⟩;
       have s3 := (hb2.cell (p := ⟨g, 3, none⟩) (by have := HB1.out.size; have := HLT.out; show g < W1.heap.size; omega)).trans G3.out; have s4 := (hb2.cell (p := ⟨g, 4, none⟩) (by have := HB1.out.size; have := HLT.out; show g < W1.heap.size; omega)).trans G4.out; have s5 := (hb2.cell (p := ⟨g, 5, none⟩) (by have := HB1.out.size; have := HLT.out; show g < W1.heap.size; omega)).trans G5.out;
       have kc2 := mclone_wr w2 p.lb m D.lasts ((HMM.out.keeps (Keeps.of_below HB1.out (fun _ => False)) (fun h => h)).keeps (Keeps.of_below (belowUndrew hb2) (fun _ => False)) (fun h => h)); have HM2 := Lib.hid hm2; have HB2 := Lib.hid hb2; clear hm2 hb2)
    | (go_at_call 47; refine kc2.mono ?_; rintro e w3 ⟨rfl, hm3, hb3⟩;
       have hgl : g < w2.heap.size := (by have h1 := HB1.out.size; have h2 := HB2.out.size; have h3 := HLT.out; have h4 : W1.heap.size ≤ w2.heap.size := h2; omega);
       have s3 := (hb3.cell (p := ⟨g, 3, none⟩) hgl).trans s3; have s4 := (hb3.cell (p := ⟨g, 4, none⟩) hgl).trans s4; have s5 := (hb3.cell (p := ⟨g, 5, none⟩) hgl).trans s5;
       have kc3 := clone_wr w3 p.wa D.waits.length p.wc _ (((HLW.out.old (by decide) HB1.out).old (by decide) (belowUndrew HB2.out)).old (by decide) hb3) (waits_one D.waits) (by have := HMM.out; omega) HCA.out.2.2.1; have HM3 := Lib.hid hm3; have HB3 := Lib.hid hb3; clear hm3 hb3 hgl)
    | (go_at_call 48; refine kc3.mono ?_; rintro e w4 ⟨a, c, rfl, ho4, hb4, _⟩;
       have hgl : g < w3.heap.size := (by have h1 := HB1.out.size; have h2 := HB2.out.size; have h3 := HLT.out; have h4 : W1.heap.size ≤ w2.heap.size := h2; have h5 := HB3.out.size; omega);
       have s3 := (hb4.cell (p := ⟨g, 3, none⟩) hgl).trans s3; have s4 := (hb4.cell (p := ⟨g, 4, none⟩) hgl).trans s4; have s5 := (hb4.cell (p := ⟨g, 5, none⟩) hgl).trans s5;
       obtain ⟨hfr, hbb, hown⟩ := twin_end H.out HW1.out HM2.out hn HB2.out HM3.out hm HB3.out ho4 hb4;
       rw [HXX.out] at hfr hbb hown; have f3 := hfr 3; have f4 := hfr 4; have f5 := hfr 5; have c3 := hbb.cell 3; have c4 := hbb.cell 4; have c5 := hbb.cell 5; have HOWN := Lib.hid hown; clear hfr hbb hown ho4 hb4 hgl))
  all_goals
    go_wp2_with fail
    go_ret
    exact ⟨x, rfl, HOWN.out⟩
end
end Go.Proofs.Ytlnomfaaldjnpaa.DK
