/- RingTexts: the walk. No condition. -/
import Derived.Test.YthnlfgogibjbnaaRingAlive
import Derived.Test.YthnlfgogibjbnaaRingS
import Derived.Test.YthnlfgogibjbnaaSameTexts
import Derived.Test.YthnlfgogibjbnaaSeg
import Derived.Test.YthnlfgogibjbnaaOpen
import Derived.Deep.DeepCutAuto
namespace Go.Proofs.Ythnlfgogibjbnaa.ringTexts
open Go.RowKit
set_option linter.unusedVariables false

theorem push_yes {w : World} {B g most : Nat} {a : Option Addr} {c : Nat} {xs : List ByteArray} (h : RingAt RS.val 66 9 w B g most a c xs) (x : ByteArray) (hr : xs.length < most) :
    Calls Try.prog 17 #[.pointer (some ⟨g, 0, none⟩), .slice (some ⟨w.heap.size, 0, none⟩) 1 1] (w.alloc (.cells #[.string x] 9)) fun e w' =>
      e = .returned (.int .i64 1) ∧ RingOut RS.val 66 9 (w.alloc (.cells #[.string x] 9)) B g most a (xs ++ [x]) w' := by
  refine (RS.push_any (h.alloc _) (some ⟨w.heap.size, 0, none⟩) 1 1 (by decide) (by omega) [x] (Lies.of_blk (cs := #[.string x]) (Blk.new _ _ _))).mono ?_
  rintro e w' ⟨rfl, h2⟩
  rw [show min 1 (most - xs.length) = 1 by omega] at h2 ⊢
  exact ⟨rfl, h2⟩
theorem push_no {w : World} {B g most : Nat} {a : Option Addr} {c : Nat} {xs : List ByteArray} (h : RingAt RS.val 66 9 w B g most a c xs) (x : ByteArray) (hr : most ≤ xs.length) :
    Calls Try.prog 17 #[.pointer (some ⟨g, 0, none⟩), .slice (some ⟨w.heap.size, 0, none⟩) 1 1] (w.alloc (.cells #[.string x] 9)) fun e w' =>
      e = .returned (.int .i64 0) ∧ RingOut RS.val 66 9 (w.alloc (.cells #[.string x] 9)) B g most a xs w' := by
  refine (RS.push_any (h.alloc _) (some ⟨w.heap.size, 0, none⟩) 1 1 (by decide) (by omega) [x] (Lies.of_blk (cs := #[.string x]) (Blk.new _ _ _))).mono ?_
  rintro e w' ⟨rfl, h2⟩
  rw [show min 1 (most - xs.length) = 0 by omega] at h2 ⊢
  exact ⟨rfl, by simpa using h2⟩

def PushRes (w : World) (B g most : Nat) (a : Option Addr) (xs : List ByteArray) (x : ByteArray) (e : Ending) (w' : World) : Prop :=
  ∃ r : Int, e = .returned (.int .i64 r) ∧ ((r = 1 ∧ RingOut RS.val 66 9 w B g most a (xs ++ [x]) w') ∨ (r = 0 ∧ RingOut RS.val 66 9 w B g most a xs w'))
theorem push_one {w : World} {B g most : Nat} {a : Option Addr} {c : Nat} {xs : List ByteArray} (h : RingAt RS.val 66 9 w B g most a c xs) (x : ByteArray) :
    Calls Try.prog 17 #[.pointer (some ⟨g, 0, none⟩), .slice (some ⟨w.heap.size, 0, none⟩) 1 1] (w.alloc (.cells #[.string x] 9)) (PushRes (w.alloc (.cells #[.string x] 9)) B g most a xs x) := by
  by_cases hr : xs.length < most
  · exact (push_yes h x hr).mono fun e w' ⟨he, h2⟩ => ⟨1, he, .inl ⟨rfl, h2⟩⟩
  · exact (push_no h x (by omega)).mono fun e w' ⟨he, h2⟩ => ⟨0, he, .inr ⟨rfl, h2⟩⟩

/-- The ring and the list hold the same texts, and share no block. -/
def Rel (w : World) (room : Nat) (T : List ByteArray) (v : Value) (wr : World) : Prop := Below w.heap.size w wr ∧
  ∃ a c ax cx, RingAt RS.val 66 9 wr w.heap.size w.heap.size room a c T ∧ v = .slice ax T.length cx ∧ Seg wr w.heap.size 9 1 ax T.length cx (T.map Value.string) ∧ Apart (ringF w.heap.size a) (segF ax)

/-- As 'Rel', the parts at hand. -/
structure At (w : World) (room : Nat) (T : List ByteArray) (N : Nat) (ax : Option Addr) (cx : Nat) (wr : World) : Prop where
  len : T.length = N
  bel : Below w.heap.size w wr
  ring : ∃ a c, RingAt RS.val 66 9 wr w.heap.size w.heap.size room a c T ∧ Apart (ringF w.heap.size a) (segF ax)
  seg : Seg wr w.heap.size 9 1 ax N cx (T.map Value.string)

theorem At.ringOut {w wr w' : World} {room N : Nat} {T T' : List ByteArray} {ax : Option Addr} {a : Option Addr} {c cx : Nat} (bel : Below w.heap.size w wr) (hR : RingAt RS.val 66 9 wr w.heap.size w.heap.size room a c T)
    (hX : Seg wr w.heap.size 9 1 ax N cx (T.map Value.string)) (hap : Apart (ringF w.heap.size a) (segF ax)) (h : RingOut RS.val 66 9 wr w.heap.size w.heap.size room a T' w') :
    Below w.heap.size w w' ∧ (∃ a c, RingAt RS.val 66 9 w' w.heap.size w.heap.size room a c T' ∧ Apart (ringF w.heap.size a) (segF ax)) ∧ Seg w' w.heap.size 9 1 ax N cx (T.map Value.string) := by
  obtain ⟨a2, c2, hR2, hK2, hG2⟩ := h
  exact ⟨hR.after bel hK2, ⟨a2, c2, hR2, hG2.apart hap hX.lt⟩, hX.keeps hK2 (fun k hk hf => hap k hf hk)⟩

theorem push_below {w wr w2 : World} {room : Nat} {T : List ByteArray} {a : Option Addr} {c : Nat} {s : ByteArray} {r : Int} (hbel : Below w.heap.size w wr) (hR : RingAt RS.val 66 9 wr w.heap.size w.heap.size room a c T)
    (h : (r = 1 ∧ RingOut RS.val 66 9 (wr.alloc (.cells #[.string s] 9)) w.heap.size w.heap.size room a (T ++ [s]) w2) ∨ (r = 0 ∧ RingOut RS.val 66 9 (wr.alloc (.cells #[.string s] 9)) w.heap.size w.heap.size room a T w2)) : Below w.heap.size w w2 := by
  rcases h with ⟨_, a2, c2, hR2, hK2, _⟩ | ⟨_, a2, c2, hR2, hK2, _⟩ <;> exact (hR.alloc _).after (hbel.alloc hbel.size _) hK2
theorem At.grown {w w2 w3 : World} {room N M : Nat} {T : List ByteArray} {s : ByteArray} {o : Obj} {ax a3 : Option Addr} {cx c3 : Nat} (hM : M = (T ++ [s]).length) (bel : Below w.heap.size w w2)
    (hr : ∃ a c, RingAt RS.val 66 9 w2 w.heap.size w.heap.size room a c (T ++ [s]) ∧ Apart (ringF w.heap.size a) (segF ax)) (hX : Seg w2 w.heap.size 9 1 ax N cx (T.map Value.string))
    (hX3 : Seg w3 w.heap.size 9 1 a3 M c3 (T.map Value.string ++ [Value.string s])) (hK3 : Keeps (segF ax) (w2.alloc o) w3) (hG3 : Grows (w2.alloc o) (segF ax) (segF a3)) : At w room (T ++ [s]) M a3 c3 w3 := by
  obtain ⟨a, c, hR, hap⟩ := hr
  have hR' := hR.alloc o
  refine ⟨hM.symm, hK3.after (bel.alloc bel.size o) hX.ge (by have := bel.size; simp; omega), ⟨a, c, hR'.keeps hK3 hap, (hG3.apart hap.symm hR'.lt).symm⟩, ?_⟩
  rw [List.map_append]; exact hX3
theorem At.tail {w w' : World} {room M g o : Nat} {t0 : ByteArray} {T1 : List ByteArray} {cx : Nat} (bel : Below w.heap.size w w') (hr : ∃ a c, RingAt RS.val 66 9 w' w.heap.size w.heap.size room a c T1 ∧ Apart (ringF w.heap.size a) (segF (some ⟨g, o, none⟩)))
    (hX : Seg w' w.heap.size 9 1 (some ⟨g, o, none⟩) M cx ((t0 :: T1).map Value.string)) (hM : M = T1.length + 1) : At w room T1 (M - 1) (if cx = 1 then some ⟨g, o, none⟩ else some ⟨g, o + 1, none⟩) (cx - 1) w' := by
  refine ⟨by omega, bel, ?_, hX.tail (by omega)⟩
  rw [segF_tail]
  exact hr
theorem At.rel {w wr : World} {room N : Nat} {T : List ByteArray} {ax : Option Addr} {cx : Nat} (h : At w room T N ax cx wr) : Rel w room T (.slice ax N cx) wr := by
  obtain ⟨rfl, bel, ⟨a, c, hR, hap⟩, hs⟩ := h
  exact ⟨bel, a, c, ax, cx, hR, rfl, hs, hap⟩

theorem infoS : (Try.prog.info? 9).map (fun i => (i.zero, i.size, i.bytes)) = some (some (.string ByteArray.empty), 1, 16) := by kernel_rfl

set_option maxRecDepth 100000 in
theorem walk (a0 : Int) (a1 : Option Addr) (len1 cap1 : Nat) (ss : List ByteArray) (a2 : Option Addr) (len2 cap2 : Nat) (bs : List Bool) (w : World)
    (_g0 : (Lit.int .i64 a0).wf = true) (g1 : SliceIs Value.string w a1 len1 cap1 ss) (g2 : SliceIs Value.bool w a2 len2 cap2 bs) :
    Calls Try.prog 4 #[.int .i64 a0, .slice a1 len1 cap1, .slice a2 len2 cap2] w fun e w' => e = .returned (.bool true) ∧ Below w.heap.size w w' := by
  obtain ⟨h1, hc1⟩ := g1
  obtain ⟨h2, hc2⟩ := g2
  unfold maxLen at hc1 hc2
  obtain ⟨hc1, hc1'⟩ := hc1
  obtain ⟨hc2, hc2'⟩ := hc2
  by_cases c1 : (100 : Int) < len1
  · go_enter Try.func4, Try.ntmps4
    go_wp2_with (go_at_call 10; refine (RI.alive_any _).mono ?_; rintro e w' ⟨rfl, hb⟩)
    go_ret
    exact ⟨rfl, hb⟩
  by_cases c2 : (200 : Int) < len2
  · go_enter Try.func4, Try.ntmps4
    go_wp2_with (go_at_call 10; refine (RI.alive_any _).mono ?_; rintro e w' ⟨rfl, hb⟩)
    go_ret
    exact ⟨rfl, hb⟩
  by_cases c3 : 1000 < a0
  · go_enter Try.func4, Try.ntmps4
    go_wp2_with (go_at_call 10; refine (RI.alive_any _).mono ?_; rintro e w' ⟨rfl, hb⟩)
    go_ret
    exact ⟨rfl, hb⟩
  obtain ⟨room, hroom⟩ : ∃ room, RI.roomOf a0 = room := ⟨_, rfl⟩
  have hrm : (room : Int) = max a0 0 := by rw [← hroom]; unfold RI.roomOf; omega
  have HRM := Lib.hid hroom
  have HRX := Lib.hid hrm
  clear hroom hrm
  have H1 := Lib.hid h1
  have H2 := Lib.hid h2
  have hsl : ss.length = len1 := by have := h1.1; simpa using this
  have hbl : bs.length = len2 := by have := h2.1; simpa using this
  have HSL := Lib.hid hsl
  have HBL := Lib.hid hbl
  clear h1 h2 hsl hbl
  obtain ⟨i0, hi, hi0, hi1, hi2⟩ := info_parts infoS
  have HI := Lib.hid (And.intro hi (And.intro hi0 (And.intro hi1 hi2)))
  clear hi hi0 hi1 hi2
  go_enter Try.func4, Try.ntmps4
  go_wp2_with (go_at_call 16; refine (RS.new_any _ _).mono ?_; rintro e w1 ⟨rfl, hR, hK⟩; rw [HRM.out] at hR)
  go_loopw [8, 9] (fun x k wr => ∃ (T : List ByteArray) (K : Nat), k = .int .i64 (K : Int) ∧ K ≤ len1 ∧ T.length ≤ K ∧ Rel w room T x wr) (fun _ k _ => len1 - (intOf k).toNat)
  case atStart => exact ⟨[], 0, rfl, by omega, by simp, hK.belowW, none, 0, none, 0, hR, rfl, Seg.nil _ _ _ _, fun _ _ h => by simp [segF, Value.ownBlock] at h⟩
  case round =>
    clear hR hK w1
    obtain ⟨T, K, rfl, hK1, hTK, hbel, a, c, ax, cx, hR, rfl, hX, hap⟩ := hrel
    by_cases hlt : K < len1
    · obtain ⟨ad, u, rfl, hx, hc⟩ := H1.out.at_ hlt
      obtain ⟨s, rfl⟩ : ∃ s, u = .string s := by
        obtain ⟨z, _, rfl⟩ := List.mem_map.1 (List.mem_of_getElem? hx)
        exact ⟨z, rfl⟩
      clear hx
      have hcell : wr.cell? (ad.add K) = some (.string s) := by
        rw [hbel.cell (by have := World.block_lt_of_cell? w _ hc; exact this)]; exact hc
      have C0 := Lib.hid hc
      clear hc
      have hpop : (∃ bd, a2 = some bd ∧ Hid (w.cell? (bd.add K) = some (.bool true)) ∧ K < len2) ∨ (∃ bd, a2 = some bd ∧ Hid (w.cell? (bd.add K) = some (.bool false)) ∧ K < len2) ∨ ¬ K < len2 := by
        by_cases hk2 : K < len2
        · obtain ⟨bd, u, e1, hx, hc⟩ := H2.out.at_ hk2
          obtain ⟨b, _, rfl⟩ := List.mem_map.1 (List.mem_of_getElem? hx)
          cases b
          · exact .inr (.inl ⟨bd, e1, hc, hk2⟩)
          · exact .inl ⟨bd, e1, hc, hk2⟩
        · exact .inr (.inr hk2)
      have HP := Lib.hid hpop
      clear hpop
      go_upto_if 42 with (go_at_call 17; refine (push_one hR _).mono ?_; rintro e w2 ⟨r, rfl, hr⟩; have R1 := Lib.hid hr; have hc2 : w2.cell? (ad.add K) = some (.string s) := ((push_below hbel hR hr).cell (World.block_lt_of_cell? w _ C0.out)).trans C0.out; clear hr)
      go_cut [8] (fun x wx => ∃ (T' : List ByteArray) (N : Nat) (ax' : Option Addr) (cx' : Nat), x = .slice ax' N cx' ∧ N ≤ K + 1 ∧ At w room T' N ax' cx' wx)
      case first =>
        rcases R1.out with ⟨hr1, hr⟩ | ⟨hr1, hr⟩
        · have g : (r == 1) = true := by rw [hr1]; rfl
          have R2 := Lib.hid (At.ringOut (hbel.alloc hbel.size _) (hR.alloc _) (hX.alloc _) hap hr)
          clear hr hr1 R1
          go_wp2_with (at_builtin; go_loud (refine wpList_append_seg _ rfl _ _ 32 rfl w.heap.size 9 i0 (.string ByteArray.empty) 1 16 Try.underlying32 HI.out.1 HI.out.2.1 HI.out.2.2.1 HI.out.2.2.2 rfl (by decide) ax T.length cx (T.map Value.string) rfl (R2.out.2.2.alloc _) (some ⟨w2.heap.size, 0, none⟩) 1 1 [.string s] rfl (Lies.of_blk (cs := #[.string s]) (Blk.new _ _ _)) (by simp; rfl) (by unfold maxLen; omega) (by omega) (by have := R2.out.1.size; simp; omega) ?_); intro a3 c3 w3 hX3 hK3 hG3; have R3 := Lib.hid (At.grown (M := T.length + 1) (by simp) R2.out.1 R2.out.2.1 R2.out.2.2 hX3 hK3 hG3); clear hX3 hK3 hG3)
          go_meet
          case rel => exact ⟨T ++ [s], T.length + 1, a3, c3, rfl, by omega, R3.out⟩
        · have g : (r == 1) = false := by rw [hr1]; rfl
          have R2 := Lib.hid (At.ringOut (hbel.alloc hbel.size _) (hR.alloc _) (hX.alloc _) hap hr)
          clear hr hr1 R1
          go_wp2
          go_meet
          case rel => exact ⟨T, T.length, ax, cx, rfl, by omega, rfl, R2.out.1, R2.out.2.1, R2.out.2.2⟩
      case rest =>
        clear R1 hc2 hR hX hap hbel hcell hTK
        obtain ⟨T', N, ax', cx', rfl, hN, hA⟩ := hcut
        have HA := Lib.hid hA
        clear hA
        rcases HP.out with ⟨bd, rfl, P0, hk2⟩ | ⟨bd, rfl, P0, hk2⟩ | hk2
        · have hp : wc.cell? (bd.add K) = some (.bool true) := (HA.out.bel.cell (World.block_lt_of_cell? w _ P0.out)).trans P0.out
          have HN := Lib.hid HA.out.len
          cases T' with
          | nil =>
            obtain rfl : N = 0 := HN.out.symm
            obtain ⟨aR, cR, hRR, hapR⟩ := HA.out.ring
            go_wp2_with (go_at_call 18; refine (RS.pop_nil hRR).mono ?_; rintro e w4 ⟨rfl, rfl⟩)
            go_roundw
            case rel => exact ⟨[], K + 1, by go_num, by omega, by simp, HA.out.rel⟩
            case measure => simp [intOf]; omega
          | cons t0 T1 =>
            obtain ⟨n1, hn1⟩ : ∃ n1, n1 = T1.length := ⟨_, rfl⟩
            obtain rfl : N = n1 + 1 := by rw [hn1]; exact HN.out.symm
            have HN1 := Lib.hid hn1
            clear hn1
            obtain ⟨gx, ox, rfl⟩ := HA.out.seg.form (by omega)
            have hcx := HA.out.seg.2.1
            have hcx' := HA.out.seg.2.2.1
            unfold maxLen at hcx'
            obtain ⟨aR, cR, hRR, hapR⟩ := HA.out.ring
            have HAP := Lib.hid hapR
            clear hapR
            have hpos : (0 : Int) < (n1 : Int) + 1 := by omega
            go_wp2_with (go_at_call 18; refine (RS.pop_cons hRR).mono ?_; rintro e w4 ⟨rfl, hr⟩; have R4 := Lib.hid (At.ringOut HA.out.bel hRR HA.out.seg HAP.out hr); have hx0 := R4.out.2.2.cell (k := 0) (u := .string t0) rfl; rw [Nat.add_zero] at hx0; clear hr)
            go_roundw
            case rel => exact ⟨T1, K + 1, by go_num, by omega, by have := HN1.out; omega, (At.tail (M := n1 + 1) R4.out.1 R4.out.2.1 R4.out.2.2 (by have := HN1.out; omega)).rel⟩
            case measure => simp [intOf]; omega
        · have hp : wc.cell? (bd.add K) = some (.bool false) := (HA.out.bel.cell (World.block_lt_of_cell? w _ P0.out)).trans P0.out
          go_wp2
          go_roundw
          case rel => exact ⟨T', K + 1, by go_num, by omega, by have := HA.out.len; omega, HA.out.rel⟩
          case measure => simp [intOf]; omega
        · go_wp2
          go_roundw
          case rel => exact ⟨T', K + 1, by go_num, by omega, by have := HA.out.len; omega, HA.out.rel⟩
          case measure => simp [intOf]; omega
    · obtain rfl : K = len1 := by omega
      have hle := hR.le
      obtain ⟨N, hN⟩ : ∃ N, T.length = N := ⟨_, rfl⟩
      have HN := Lib.hid hN
      have hrm := HRX.out
      rw [hN] at hle hTK hX ⊢
      clear hN hrm
      have hmx : ¬ (room : Int) < (N : Int) := by omega
      have hmx2 : (N : Int) ≤ max a0 0 := by have := HRX.out; omega
      by_cases ha : a0 < 0
      · have hz : (N : Int) ≤ 0 := by omega
        go_wp2_with (first
          | (go_at_call 10; refine (RI.alive_any _).mono ?_; rintro e w2 ⟨rfl, hb⟩; have hR2 := hR.below hb (fun k hk => hR.lt k hk); have hX2 := hX.below hb (fun k hk => hX.lt k hk); have hb2 := hbel.trans (hb.mono hbel.size); clear hb)
          | (go_at_call 20; refine (RS.list_any hR2).mono ?_; rintro e w3 ⟨a3, c3, rfl, ho3, hk3⟩; have hR3 := hR2.keeps hk3 (fun _ _ h => h); have hX3 := hX2.keeps hk3 (fun _ _ h => h); have hb3 := hb2.trans (hk3.belowW.mono hb2.size); rw [HN.out] at ho3 ⊢)
          | (go_at_call 19; refine (Bk.same_texts a3 ax N c3 cx T w3 (Lies.of_own ho3) hX3.lies (by unfold maxLen; omega)).mono ?_; rintro e w4 ⟨rfl, nd, rfl⟩)
          | (go_at_call 21; refine (RS.len_is (hR3.drewN _) (N : Int) (by rw [HN.out])).mono ?_; rintro e w5 ⟨rfl, rfl⟩))
        go_ret
        exact ⟨ret_bool (decide_eq_true (by omega)), belowDrewN hb3 _⟩
      · have hz : (N : Int) ≤ a0 := by omega
        go_wp2_with (first
          | (go_at_call 10; refine (RI.alive_any _).mono ?_; rintro e w2 ⟨rfl, hb⟩; have hR2 := hR.below hb (fun k hk => hR.lt k hk); have hX2 := hX.below hb (fun k hk => hX.lt k hk); have hb2 := hbel.trans (hb.mono hbel.size); clear hb)
          | (go_at_call 20; refine (RS.list_any hR2).mono ?_; rintro e w3 ⟨a3, c3, rfl, ho3, hk3⟩; have hR3 := hR2.keeps hk3 (fun _ _ h => h); have hX3 := hX2.keeps hk3 (fun _ _ h => h); have hb3 := hb2.trans (hk3.belowW.mono hb2.size); rw [HN.out] at ho3 ⊢)
          | (go_at_call 19; refine (Bk.same_texts a3 ax N c3 cx T w3 (Lies.of_own ho3) hX3.lies (by unfold maxLen; omega)).mono ?_; rintro e w4 ⟨rfl, nd, rfl⟩)
          | (go_at_call 21; refine (RS.len_is (hR3.drewN _) (N : Int) (by rw [HN.out])).mono ?_; rintro e w5 ⟨rfl, rfl⟩))
        go_ret
        exact ⟨rfl, belowDrewN hb3 _⟩
end Go.Proofs.Ythnlfgogibjbnaa.ringTexts
