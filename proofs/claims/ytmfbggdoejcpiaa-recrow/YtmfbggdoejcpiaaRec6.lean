/- rec: images. No condition. -/
import Derived.Test.YtmfbggdoejcpiaaRec5
import Derived.Deep.RegionLaw
namespace Go.Proofs.Ytmfbggdoejcpiaa.RC
open Go.RowKit Go.Proofs.Ytmfbggdoejcpiaa.WI Go.Proofs.Ytmfbggdoejcpiaa.SM
set_option linter.unusedVariables false
set_option linter.unusedSimpArgs false

theorem infIm : (Try.prog.info? TIm).map (fun i => (i.zero, i.size, i.bytes)) = some (some (iagg im0), 3, 32) := by kernel_rfl
theorem recT_data (x : Im) : (recT x).data.toList = U8 (lowB x.b 4) ++ (U8 (lowB x.v 8) ++ x.d.data.toList) := by
  unfold recT numsT
  rw [app_dat, strOf_data, List.nil_append, U8_app, List.append_assoc]
theorem row_more6 {w wr w5 w6 : World} {a : Option Addr} {k c : Nat} {xs : List Value} {o : Obj} (h : wr.ownsRow w.heap.size TIm 3 (.slice a k c) k xs) (hb : Below w.heap.size w wr) (h5 : Below wr.heap.size wr w5) (hg : (w5.alloc o).grownBy w6 (Value.slice a 0 0).ownBlock) : Below w.heap.size w w6 := by
  have hA : Below w.heap.size w (w5.alloc o) := (hb.trans (h5.mono hb.size)).alloc (by have h1 := hb.size; have h2 := h5.size; omega) _
  refine hA.trans ⟨hg.os, hg.tape, hg.output, hg.size, fun j hj => hg.block j (by have := hA.size; omega) (fun e => ?_)⟩
  have := (h.lt j ((own_blk_ _ _ _).trans e.symm)).1
  omega
def ImagesOut (n : Nat) (xs : List Im) (w : World) (e : Ending) (w' : World) : Prop := ∃ A c, e = .returned (.slice A n c) ∧ w'.ownsRow w.heap.size TIm 3 (.slice A n c) n (xs.flatMap ival) ∧ Below w.heap.size w w'
set_option maxHeartbeats 4000000 in
theorem images_any (b : ByteArray) (n : Nat) (xs : List Im) (hn : xs.length = n) (hn60 : n ≤ 60) (hb : b.size ≤ 100000) (h108 : 108 * n ≤ b.size) (hx : ∀ i, i < n → b.extract (108 * i) (108 * (i + 1)) = recT (xs.getD i im0)) (hg : Good xs) (w : World) :
    Calls Try.prog 24 #[.string b, .int .i64 (n : Int)] w (ImagesOut n xs w) := by
  obtain ⟨i0, hi, hz0, hz1, hz2⟩ := info_parts infIm
  have HX := Lib.hid hx
  have HG := Lib.hid hg
  have HN := Lib.hid hn
  clear hx hg hn
  go_enter Try.func24, Try.ntmps24
  go_wp2_with fail
  go_loopw [5, 6, 7, 8, 10] (fun s _ _ _ i wr => ∃ (k : Nat) (a : Option Addr) (c : Nat), i = .int .i64 (k : Int) ∧ s = .slice a k c ∧ k ≤ n ∧ Hid (wr.ownsRow w.heap.size TIm 3 (.slice a k c) k ((xs.take k).flatMap ival) ∧ Below w.heap.size w wr)) (fun _ _ _ _ i _ => n - (intOf i).toNat)
  case atStart => exact ⟨0, none, 0, rfl, rfl, by omega, Lib.hid ⟨World.ownsRow_nil _ _ _ _, belowSame w⟩⟩
  case round =>
    obtain ⟨k, a, c, rfl, rfl, hk, HR⟩ := hrel
    by_cases hlt : k < n
    · have hxk := HX.out k hlt
      obtain ⟨x, hxx⟩ : ∃ x, xs[k]? = some x := ⟨_, List.getElem?_eq_getElem (by rw [HN.out]; exact hlt)⟩
      have hgk : xs.getD k im0 = x := by rw [List.getD_eq_getElem?_getD, hxx]; rfl
      have hgd := HG.out.at_ (show k < xs.length by have := HN.out; omega)
      rw [hgk] at hxk hgd
      have hflat : (xs.take (k + 1)).flatMap ival = (xs.take k).flatMap ival ++ ival x := by rw [List.take_add_one, hxx, List.flatMap_append]; simp
      obtain ⟨S, hS⟩ : ∃ S, recT x = S := ⟨_, rfl⟩
      have hSd := recT_data x
      rw [hS] at hxk hSd
      obtain ⟨a1, a2, a3⟩ := rd_step hSd hgd.1 (by rw [show (256 : Nat) ^ 4 = 4294967296 from rfl]; omega)
      obtain ⟨X1, hX1⟩ : ∃ X1, S.extract 4 S.size = X1 := ⟨_, rfl⟩
      rw [hX1] at a2
      obtain ⟨b1, b2, b3⟩ := rd_step a2 hgd.2.2.2.1 (by rw [show (256 : Nat) ^ 8 = 18446744073709551616 from rfl]; omega)
      have hSz : S.size = 108 := by rw [← hS]; unfold recT; rw [ByteArray.size_append, numsT_size, hgd.2.2.1]
      have hX1z : X1.size ≤ 108 := by rw [← hX1, ByteArray.size_extract]; omega
      obtain ⟨⟨xb, xv, xd⟩, rfl⟩ : ∃ y, x = y := ⟨x, rfl⟩
      dsimp only at *
      have hd12 : S.extract 12 S.size = xd := by
        apply ByteArray.ext
        apply Array.ext'
        rw [ByteArray.data_extract, Array.toList_extract, List.extract_eq_take_drop, hSd, ← List.append_assoc, List.drop_left' (by unfold U8; rw [List.length_append, List.length_map, List.length_map, lowB_len, lowB_len])]
        refine List.take_of_length_le ?_
        rw [Array.length_toList]
        show xd.size ≤ _
        omega
      have q1 : ∀ {W w : World} {B g : Nat}, Rd W B g S w → Calls Try.prog 28 #[.pointer (some ⟨g, 0, none⟩), .int .i64 4] w fun x w' => x = .returned (.int .u64 xb) ∧ Rd W B g X1 w' ∧ Keeps (only g) w w' := fun h => by
        have := rnum_4 h a3 (by omega); rwa [a1, hX1] at this
      have q2 : ∀ {W w : World} {B g : Nat}, Rd W B g X1 w → Calls Try.prog 28 #[.pointer (some ⟨g, 0, none⟩), .int .i64 8] w fun x w' => x = .returned (.int .u64 xv) ∧ Rd W B g (X1.extract 8 X1.size) w' ∧ Keeps (only g) w w' := fun h => by
        have := rnum_8 h b3 (by omega); rwa [b1] at this
      generalize X1.extract 8 X1.size = X2 at q2
      have kn := fun W => new_reader S (by omega) W
      have kc := fun W => clone_any xd (by have := hgd.2.2.1; omega) W
      have hs1 : ∀ w : World, (Instr.slice 9 (.string b) (some (.int .i64 ((k : Int) * 108))) (some (.int .i64 (((k : Int) + 1) * 108))) none).run Try.prog w = .ok (.string S) w := fun w => by
        rw [run_slice_string (P := Try.prog) w _ b .i64 .i64 ((k : Int) * 108) (((k : Int) + 1) * 108) Try.underlying9 (by omega) (by omega) (by omega)]
        rw [show ((k : Int) * 108).toNat = 108 * k by omega, show (((k : Int) + 1) * 108).toNat = 108 * (k + 1) by omega, hxk]
      have e1 : IntKind.i64.wrap ((k : Int) + 1) = (k : Int) + 1 := IntWalk.i64_in _ (by omega)
      have e2 : IntKind.i64.wrap ((k : Int) * 108) = (k : Int) * 108 := IntWalk.i64_in _ (by omega)
      have e3 : IntKind.i64.wrap (((k : Int) + 1) * 108) = ((k : Int) + 1) * 108 := IntWalk.i64_in _ (by omega)
      have e4 : IntKind.i64.wrap xb = xb := IntWalk.i64_in _ (by omega)
      have hi12 : (12 : Int) ≤ (S.size : Int) := by omega
      have HFL := Lib.hid hflat
      have HKN := Lib.hid kn
      have hmx : k + 1 ≤ maxLen := by unfold maxLen; omega
      clear hxk hxx hgk hgd hflat hSd a1 a2 a3 b1 b2 b3 hSz hX1 hX1z kn hS
      go_upto_region 7 with (go_at_call 27; refine (HKN.out _).mono ?_; rintro x w2 ⟨g, rfl, hr2⟩; have R0 := Lib.hid hr2.drew; clear hr2)
      have QQ1 := q1 R0.out
      clear q1
      go_region_law (first
        | (go_simp; (with_reducible refine QQ1.mono ?_); rintro x w3 ⟨rfl, hr3, hk3⟩; have QQ2 := q2 hr3; clear hr3 hk3 QQ1)
        | (go_simp; (with_reducible refine QQ2.mono ?_); rintro x w4 ⟨rfl, hr4, hk4⟩; have HB4 := Lib.hid hr4.2.1; clear hr4 hk4 QQ2)
        | (go_simp; refine (kc _).mono ?_; rintro x w5 ⟨rfl, hb5⟩; have hb45 := HB4.out.trans (hb5.mono HB4.out.size); have ho5 := (own_keeps HR.out.1 (Keeps.of_below hb45 (fun _ => False)) (fun _ _ h => h)).alloc (.cells #[.int .i64 xb, .int .u64 xv, .string xd] TIm); have hl5 : Lies (w5.alloc (.cells #[.int .i64 xb, .int .u64 xv, .string xd] TIm)) 3 (some ⟨w5.heap.size, 0, none⟩) 1 (ival ⟨xb, xv, xd⟩) := (by have := Lies.of_blk (Blk.new w5 TIm #[.int .i64 xb, .int .u64 xv, .string xd]); exact ⟨rfl, fun _ => this.2 (by simp)⟩); have hB5 := Lib.hid hb45; have hw5 : w.heap.size ≤ (w5.alloc (.cells #[.int .i64 xb, .int .u64 xv, .string xd] TIm)).heap.size := (by have h1 := HR.out.2.size; have h2 := hb45.size; simp; omega); clear hb5 hb45)
        | (refine step_append_lie _ rfl (.tmp 22) (.tmp 32) 23 rfl w.heap.size TIm i0 _ 3 32 Try.underlying23 hi hz0 hz1 hz2 rfl (by decide) a k c ((xs.take k).flatMap ival) (by go_simp) ho5 (some ⟨w5.heap.size, 0, none⟩) 1 1 (ival ⟨xb, xv, xd⟩) (by go_simp) hl5 (by intro u hu; simp [ival] at hu; rcases hu with rfl | rfl | rfl <;> rfl) hmx (by omega) hw5 ?_; intro a6 c6 w6 ho6 hg6 hat6; have R6 := Lib.hid (And.intro ho6 (row_more6 HR.out.1 HR.out.2 hB5.out hg6)); rw [← HFL.out] at R6; clear ho6 hg6 hat6 ho5 hl5 hw5))
      all_goals
        go_wp2_with fail
        go_roundw
        case rel => exact ⟨k + 1, a6, c6, by go_num, rfl, by omega, R6⟩
        case measure => simp [intOf]; omega
    · obtain rfl : k = n := by omega
      have hr := HR.out.1
      rw [List.take_of_length_le (by have := HN.out; omega)] at hr
      have HR2 := Lib.hid hr
      clear hr
      go_wp2_with fail
      go_ret
      exact ⟨a, c, rfl, HR2.out, HR.out.2⟩
end Go.Proofs.Ytmfbggdoejcpiaa.RC
