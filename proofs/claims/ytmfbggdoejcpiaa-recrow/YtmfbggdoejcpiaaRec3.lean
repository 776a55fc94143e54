/- rec: body, Put. No condition. -/
import Derived.Test.YtmfbggdoejcpiaaRec2
namespace Go.Proofs.Ytmfbggdoejcpiaa.RC
open Go.RowKit Go.Proofs.Ytmfbggdoejcpiaa.WI Go.Proofs.Ytmfbggdoejcpiaa.SM
set_option linter.unusedVariables false
set_option linter.unusedSimpArgs false

def numsT (x : Im) : ByteArray := strOfNums (([] ++ lowB x.b 4) ++ lowB x.v 8)
theorem numsT_size (x : Im) : (numsT x).size = 12 := by unfold numsT; rw [strOf_size]; simp [lowB_len]
def recT (x : Im) : ByteArray := numsT x ++ x.d
def bodyK (xs : List Im) : Nat → ByteArray
  | 0 => ⟨#[]⟩
  | k + 1 => bodyK xs k ++ recT (xs.getD k im0)
/-- All of them may be put. -/
def Good (xs : List Im) : Prop := ∀ x ∈ xs, 0 ≤ x.b ∧ x.b < 4096 ∧ x.d.size = 96 ∧ 0 ≤ x.v ∧ x.v ≤ 18446744073709551615
theorem Good.at_ {xs : List Im} (h : Good xs) {k : Nat} (hk : k < xs.length) : 0 ≤ (xs.getD k im0).b ∧ (xs.getD k im0).b < 4096 ∧ (xs.getD k im0).d.size = 96 ∧ 0 ≤ (xs.getD k im0).v ∧ (xs.getD k im0).v ≤ 18446744073709551615 := by
  refine h _ ?_
  rw [List.getD_eq_getElem?_getD, List.getElem?_eq_getElem hk]
  exact List.getElem_mem hk
theorem bodyK_size {xs : List Im} (h : Good xs) {k : Nat} (hk : k ≤ xs.length) : (bodyK xs k).size = 108 * k := by
  induction k with
  | zero => rfl
  | succ k ih =>
    unfold bodyK recT
    rw [ByteArray.size_append, ByteArray.size_append, ih (by omega), numsT_size, (h.at_ (show k < xs.length by omega)).2.2.1]
    omega
set_option maxHeartbeats 4000000 in
theorem body_any (A : Option Addr) (n c : Nat) (xs : List Im) (w : World) (h : Ims w A n c xs) (hg : Good xs) (hn : n ≤ 100000) :
    Calls Try.prog 19 #[.slice A n c] w fun x w' => x = .returned (.string (bodyK xs n)) ∧ Below w.heap.size w w' := by
  have hln := h.2.2.1
  have hlc := h.1
  have HX := Lib.hid h
  have HG := Lib.hid hg
  have HN := Lib.hid hln
  clear h hg hln
  go_enter Try.func19, Try.ntmps19
  go_wp2_with fail
  go_loopw [3, 5, 6, 7, 8, 11] (fun s _ _ _ _ i wr => ∃ k : Nat, i = .int .i64 (k : Int) ∧ s = .string (bodyK xs k) ∧ k ≤ n ∧ Hid (Below w.heap.size w wr)) (fun _ _ _ _ _ i _ => n - (intOf i).toNat)
  case atStart => exact ⟨0, rfl, rfl, by omega, Lib.hid (belowSame w)⟩
  case round =>
    obtain ⟨k, rfl, rfl, hk, HB⟩ := hrel
    by_cases hlt : k < n
    · obtain ⟨b, off, x, rfl, hx, hok, hbl, hkc, c0, c1, c2⟩ := (HX.out.old HB.out).at_ hlt
      have hgk : xs.getD k im0 = x := by rw [List.getD_eq_getElem?_getD, hx]; rfl
      have hgd := HG.out.at_ (show k < xs.length by have := HN.out; omega)
      rw [hgk] at hgd
      have e1 : IntKind.i64.wrap ((k : Int) + 1) = (k : Int) + 1 := IntWalk.i64_in _ (by omega)
      have wb : IntKind.u64.wrap x.b = x.b := IntWalk.u64_in _ (by omega)
      have hsz := bodyK_size HG.out (k := k) (by have := HN.out; omega)
      have hbk : bodyK xs (k + 1) = bodyK xs k ++ (numsT x ++ x.d) := by rw [← hgk]; rfl
      obtain ⟨T, hT⟩ : ∃ T, bodyK xs k = T := ⟨_, rfl⟩
      obtain ⟨U, hU⟩ : ∃ U, numsT x = U := ⟨_, rfl⟩
      have hus := numsT_size x
      rw [hT] at hsz hbk ⊢
      rw [hU] at hus hbk
      have hds := hgd.2.2.1
      obtain ⟨xb, hxb⟩ : ∃ z, x.b = z := ⟨_, rfl⟩
      obtain ⟨xv, hxv⟩ : ∃ z, x.v = z := ⟨_, rfl⟩
      obtain ⟨xd, hxd⟩ : ∃ z, x.d = z := ⟨_, rfl⟩
      have hU2 : strOfNums (([] ++ lowB xb 4) ++ lowB xv 8) = U := by rw [← hU, ← hxb, ← hxv]; rfl
      rw [hxb] at wb c0 hgd
      rw [hxv] at c1 hgd
      rw [hxd] at c2 hds hbk hgd
      have hz1 : ¬ 9223372036854775807 < U.size + xd.size := by omega
      have hz2 : ¬ 9223372036854775807 < T.size + (U ++ xd).size := by rw [ByteArray.size_append]; omega
      have hz3 : ¬ 9223372036854775807 < T.size + (U.size + xd.size) := by omega
      have HU := Lib.hid hU2
      have HGD := Lib.hid hgd
      have HBK := Lib.hid hbk
      clear hx hok hgk hgd hT hU hU2 hbk hxb hxv hxd hsz hus hds
      go_upto_region 6 with fail
      have hW := wr_new (wr.alloc (.cells #[.int .i64 xb, .int .u64 xv, .string xd] TIm))
      have hb1 := Blk.new wr TIm #[.int .i64 xb, .int .u64 xv, .string xd]
      have hsz1 : (wr.alloc (.cells #[.int .i64 xb, .int .u64 xv, .string xd] TIm)).heap.size = wr.heap.size + 1 := by simp
      have hbl1 : Below wr.heap.size wr (wr.alloc (.cells #[.int .i64 xb, .int .u64 xv, .string xd] TIm)) := (Below.refl _ wr).alloc (Nat.le_refl _) _
      rw [hsz1] at hW
      obtain ⟨W1, hW1⟩ : ∃ W1, wr.alloc (.cells #[.int .i64 xb, .int .u64 xv, .string xd] TIm) = W1 := ⟨_, rfl⟩
      rw [hW1] at hW hb1 hbl1 ⊢
      obtain ⟨W2, hW2⟩ : ∃ W2, W1.alloc (.cells #[.slice none 0 0, .int .i64 0] 57) = W2 := ⟨_, rfl⟩
      rw [hW2] at hW ⊢
      obtain ⟨g, hg⟩ : ∃ g, wr.heap.size + 1 = g := ⟨_, rfl⟩
      rw [hg] at hW ⊢
      have HGS : Hid (wr.heap.size ≤ g) := Lib.hid (by omega)
      obtain ⟨x0, hx0⟩ : ∃ x, wr.heap.size = x := ⟨_, rfl⟩
      rw [hx0] at hb1 hg ⊢
      have hxg : x0 < g := by omega
      have C0 : Hid (W1.cell? ⟨x0, 0, none⟩ = some (.int .i64 xb)) := Lib.hid (hb1.cell 0)
      have C1 : Hid (W1.cell? ⟨x0, 1, none⟩ = some (.int .u64 xv)) := Lib.hid (hb1.cell 1)
      have C2 : Hid (W1.cell? ⟨x0, 2, none⟩ = some (.string xd)) := Lib.hid (hb1.cell 2)
      have t0 := hW.cell hxg C0.out
      have t1 := hW.cell hxg C1.out
      have t2 := hW.cell hxg C2.out
      have k1 := num_4 hW.drew (by simp) xb HGD.out.1 (by have := HGD.out; omega)
      have HBL := Lib.hid hbl1
      clear hW hb1 hsz1 hbl1 hW1 hW2 hg hx0 c0 c1 c2
      go_region_held3 (fun W => W.cell? ⟨x0, 0, none⟩ = some (.int .i64 xb) ∧ W.cell? ⟨x0, 1, none⟩ = some (.int .u64 xv) ∧ W.cell? ⟨x0, 2, none⟩ = some (.string xd)) (go_keep) (first
        | (go_at_call 25; (with_reducible refine k1.mono ?_); rintro x w3 ⟨rfl, h3⟩; have s0 := h3.cell hxg C0.out; have s1 := h3.cell hxg C1.out; have s2 := h3.cell hxg C2.out; have k2 := num_8 h3 (by simp [lowB_len]) xv HGD.out.2.2.2.1 HGD.out.2.2.2.2; clear k1 h3)
        | (go_at_call 25; (with_reducible refine k2.mono ?_); rintro x w4 ⟨rfl, h4⟩; have s0 := h4.cell hxg C0.out; have s1 := h4.cell hxg C1.out; have s2 := h4.cell hxg C2.out; have k3 := bytes_any h4 (by simp [lowB_len]); rw [HU.out] at k3; have H4 := Lib.hid h4.bel; clear k2 h4)
        | (go_at_call 26; (with_reducible refine k3.mono ?_); rintro x w5 ⟨rfl, rfl⟩; clear k3))
      go_wp2_with fail
      go_roundw
      case rel =>
        have hA := HBL.out.trans (H4.out.mono HGS.out)
        exact ⟨k + 1, by go_num, by rw [HBK.out], by omega, Lib.hid (HB.out.trans (hA.mono HB.out.size))⟩
      case measure => simp [intOf]; omega
    · have hkn : k = n := by omega
      obtain ⟨T, hT⟩ : ∃ T, bodyK xs k = T := ⟨_, rfl⟩
      rw [hT]
      have HT := Lib.hid (hkn ▸ hT)
      clear hT hkn
      go_wp2_with fail
      go_ret
      exact ⟨by rw [HT.out]; rfl, HB.out⟩
end Go.Proofs.Ytmfbggdoejcpiaa.RC
