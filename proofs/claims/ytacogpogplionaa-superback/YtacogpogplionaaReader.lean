/- wire.Reader: NewReader, Num of 1, 4 and 8 bytes. No condition. -/
import Derived.Test.YtacogpogplionaaWire2
import Derived.Test.YtacogpogplionaaOpenSum
import Derived.Test.YtacogpogplionaaBytes
namespace Go.Proofs.Ytacogpogplionaa.WI
set_option maxRecDepth 100000
open Go.RowKit
set_option linter.unusedVariables false
set_option linter.unusedSimpArgs false

abbrev TRd : TypeId := 80
/-- The reader in block g has the bytes s to read; nothing but it and new blocks was turned since W. -/
def Rd (W : World) (B g : Nat) (s : ByteArray) (w : World) : Prop := Blk w g TRd #[.string s, .int .i64 0] ∧ Below B W w ∧ B ≤ g
def leL : List UInt8 → Int
  | [] => 0
  | b :: l => (b.toNat : Int) + 256 * leL l
theorem leL_snoc (l : List UInt8) (c : UInt8) : leL (l ++ [c]) = leL l + (c.toNat : Int) * ((256 ^ l.length : Nat) : Int) := by
  induction l with
  | nil => simp [leL]
  | cons b l ih =>
    show (b.toNat : Int) + 256 * leL (l ++ [c]) = (b.toNat : Int) + 256 * leL l + _
    rw [ih, List.length_cons, Nat.pow_succ]
    have : (c.toNat : Int) * ((256 ^ l.length * 256 : Nat) : Int) = 256 * ((c.toNat : Int) * ((256 ^ l.length : Nat) : Int)) := by
      rw [Int.natCast_mul]
      rw [show (((256 : Nat)) : Int) = 256 from rfl, ← Int.mul_assoc, Int.mul_comm]
    rw [this]
    omega
theorem leL_lt (l : List UInt8) : ∃ m : Nat, leL l = (m : Int) ∧ m < 256 ^ l.length := by
  induction l with
  | nil => exact ⟨0, rfl, by decide⟩
  | cons b l ih =>
    obtain ⟨m, h1, h2⟩ := ih
    refine ⟨b.toNat + 256 * m, ?_, ?_⟩
    · show (b.toNat : Int) + 256 * leL l = _
      rw [h1]; omega
    · have hb := b.toNat_lt
      rw [List.length_cons, Nat.pow_succ]
      have : b.toNat < 256 := hb
      omega
theorem or_u64 (a b : Nat) (ha : a < 18446744073709551616) (hb : b < 18446744073709551616) : bits .or .u64 (a : Int) (b : Int) = ((a ||| b : Nat) : Int) := by
  have hx : a ||| b < 2 ^ 64 := Nat.or_lt_two_pow (by omega) (by omega)
  show IntKind.u64.wrap ((BitVec.ofInt 64 (a : Int) ||| BitVec.ofInt 64 (b : Int)).toNat : Int) = _
  have e1 : (BitVec.ofInt 64 (a : Int)).toNat = a := by rw [BitVec.ofInt_natCast, BitVec.toNat_ofNat]; exact Nat.mod_eq_of_lt (by omega)
  have e2 : (BitVec.ofInt 64 (b : Int)).toNat = b := by rw [BitVec.ofInt_natCast, BitVec.toNat_ofNat]; exact Nat.mod_eq_of_lt (by omega)
  rw [BitVec.toNat_or, e1, e2]
  simp only [IntKind.wrap, IntKind.bits, IntKind.signed]
  simp
  omega
theorem le_step (l : List UInt8) (k : Nat) (c : UInt8) (hc : l[k]? = some c) (hk : k < 8) :
    bits BinOp.or IntKind.u64 (leL (l.take k)) (IntKind.u64.wrap (IntKind.u64.wrap (c.toNat : Int) * 2 ^ (8 * k))) = leL (l.take (k + 1)) := by
  have hlen : (l.take k).length = k := by rw [List.length_take]; have := (List.getElem?_eq_some_iff.1 hc).1; omega
  obtain ⟨m, h1, h2⟩ := leL_lt (l.take k)
  rw [hlen] at h2
  have hcl : c.toNat < 256 := c.toNat_lt
  have hpow : (256 : Nat) ^ k = 2 ^ (8 * k) := by rw [show (256 : Nat) = 2 ^ 8 from rfl, ← Nat.pow_mul]
  have hle : 2 ^ (8 * k) ≤ 2 ^ 56 := Nat.pow_le_pow_right (by omega) (by omega)
  have hmul : c.toNat * 2 ^ (8 * k) ≤ 255 * 2 ^ 56 := Nat.mul_le_mul (by omega) hle
  have hw1 : IntKind.u64.wrap (c.toNat : Int) = (c.toNat : Int) := IntWalk.u64_in _ (by omega)
  have hcast : ((2 : Int) ^ (8 * k)) = ((2 ^ (8 * k) : Nat) : Int) := by rw [Int.natCast_pow]; rfl
  have hw2 : IntKind.u64.wrap ((c.toNat : Int) * 2 ^ (8 * k)) = ((c.toNat * 2 ^ (8 * k) : Nat) : Int) := by
    rw [hcast, ← Int.natCast_mul]
    exact IntWalk.u64_in _ (by omega)
  rw [hw1, hw2, h1, or_u64 _ _ (by omega) (by omega)]
  rw [List.take_add_one, hc]
  show _ = leL (l.take k ++ [c])
  rw [leL_snoc, hlen, h1, hpow]
  have hor := Nat.two_pow_add_eq_or_of_lt (by rw [← hpow]; exact h2 : m < 2 ^ (8 * k)) c.toNat
  rw [Nat.or_comm, Nat.mul_comm c.toNat, ← hor, Nat.mul_comm (2 ^ (8 * k)), ← Int.natCast_mul]
  omega
theorem err_ok {w : World} {g : Nat} {s : ByteArray} (hb : Blk w g TRd #[.string s, .int .i64 0]) : Calls Try.prog 53 #[.pointer (some ⟨g, 0, none⟩)] w fun e w' => e = .returned (.int .i64 0) ∧ w' = w := by
  have c1 : w.cell? ⟨g, 1, none⟩ = some (.int .i64 0) := hb.cell 1
  go_enter Try.func53, Try.ntmps53
  go_wp2
  go_ret
  exact ⟨rfl, rfl⟩
theorem take_ok {W w : World} {B g : Nat} {s : ByteArray} (h : Rd W B g s w) (n : Nat) (hn : n ≤ s.size) (hs : s.size ≤ 1000000) :
    Calls Try.prog 37 #[.pointer (some ⟨g, 0, none⟩), .int .i64 (n : Int)] w fun e w' => e = .returned (.string (s.extract 0 n)) ∧ Rd W B g (s.extract n s.size) w' ∧ Keeps (only g) w w' := by
  obtain ⟨hb, hB, hBg⟩ := h
  have ke := err_ok hb
  have c0 : w.cell? ⟨g, 0, none⟩ = some (.string s) := hb.cell 0
  have f0 := hb.frozen 0
  have H2 : Hid (Rd W B g (s.extract n s.size) (w.setCell ⟨g, 0, none⟩ (.string (s.extract n s.size)))) := Lib.hid ⟨hb.set_ 0 _, hB.setCell hBg _, hBg⟩
  have HK := Lib.hid (keep1 w g 0 (.string (s.extract n s.size)))
  have hi : (n : Int) ≤ (s.size : Int) := by omega
  clear hb hB hBg
  go_enter Try.func37, Try.ntmps37
  go_wp2_with (go_at_call 53; refine ke.mono ?_; rintro e w1 ⟨rfl, rfl⟩)
  go_ret
  exact ⟨rfl, H2.out, HK.out⟩
theorem new_reader (s : ByteArray) (hs : s.size ≤ 1000000) (w : World) : Calls Try.prog 21 #[.string s] w fun e w' => ∃ g, e = .returned (.pointer (some ⟨g, 0, none⟩)) ∧ Rd w w.heap.size g s w' := by
  have kc := SM.clone_any s hs w
  go_enter Try.func21, Try.ntmps21
  go_wp2_with (go_at_call 35; refine kc.mono ?_; rintro e w1 ⟨rfl, hb⟩; have HB := Lib.hid hb; clear hb)
  go_ret
  exact ⟨w1.heap.size, rfl, Blk.new _ _ _, HB.out.alloc HB.out.size _, HB.out.size⟩
set_option maxHeartbeats 1600000 in
theorem rnum_any {W w : World} {B g : Nat} {s : ByteArray} (h : Rd W B g s w) (n : Nat) (hn : n ≤ s.size) (hs : s.size ≤ 1000000) (hn8 : n ≤ 8)
    (hw : Calls Try.prog 31 #[.int .u64 0, .int .i64 (n : Int)] w fun e w' => e = .returned (.int .i64 0) ∧ w = w') :
    Calls Try.prog 22 #[.pointer (some ⟨g, 0, none⟩), .int .i64 (n : Int)] w fun e w' => e = .returned (.int .u64 (leL (s.extract 0 n).data.toList)) ∧ Rd W B g (s.extract n s.size) w' ∧ Keeps (only g) w w' := by
  have kt := take_ok h n hn hs
  obtain ⟨l, hl⟩ : ∃ l, s.extract 0 n = l := ⟨_, rfl⟩
  have hln : l.size = n := by rw [← hl, ByteArray.size_extract]; omega
  rw [hl] at kt
  rw [hl]
  have HLL : Hid (l.data.toList.length = n) := Lib.hid (by rw [Array.length_toList]; exact hln)
  have cv := fun W => Lib.run_convert_string_bytes (P := Try.prog) W 9 37 5 l Try.underlying9 Try.underlying37 Try.underlying5
  rw [hln] at cv
  clear h hl
  go_enter Try.func22, Try.ntmps22
  go_wp2_with (first
    | (go_at_call 31; refine hw.mono ?_; rintro e w' ⟨rfl, rfl⟩)
    | (go_at_call 37; refine kt.mono ?_; rintro e w1 ⟨rfl, h1, hk1⟩; have H1 := Lib.hid h1; have HK1 := Lib.hid hk1; clear h1 hk1))
  have b2 := cells_new w1 5 l
  have hbel := below_bytes w1 5 l
  generalize Lib.bytesWorld w1 5 l = w2 at b2 hbel ⊢
  generalize w1.heap.size = x2 at b2 ⊢
  have HB2 := Lib.hid b2
  have HKK : Hid (Keeps (only g) w w2) := Lib.hid (HK1.out.trans (Keeps.of_below hbel (fun _ => False)) (fun _ _ h => h.elim))
  have HL2 : Hid (Rd W B g (s.extract n s.size) w2) := Lib.hid ⟨H1.out.1.below hbel (by have := H1.out.1.lt; omega), H1.out.2.1.trans (hbel.mono (by have := H1.out.1.lt; have := H1.out.2.2; omega)), H1.out.2.2⟩
  have HOR : Hid (∀ (k : Nat) (c : UInt8), k < n → l.data.toList[k]? = some c → bits BinOp.or IntKind.u64 (leL (l.data.toList.take k)) (IntKind.u64.wrap (IntKind.u64.wrap (c.toNat : Int) * 2 ^ (8 * k))) = leL (l.data.toList.take (k + 1))) := Lib.hid fun k c hk hc => le_step l.data.toList k c hc (by omega)
  clear b2 hbel hw kt
  go_loopw [6, 7, 8, 21] (fun v _ _ i wr => ∃ k : Nat, i = .int .i64 (k : Int) ∧ v = .int .u64 (leL (l.data.toList.take k)) ∧ k ≤ n ∧ wr = w2) (fun _ _ _ i _ => n - (intOf i).toNat)
  case atStart => exact ⟨0, rfl, rfl, by omega, rfl⟩
  case round =>
    obtain ⟨k, rfl, rfl, hk, rfl⟩ := hrel
    by_cases hlt : k < n
    · obtain ⟨c, hc⟩ : ∃ c, l.data.toList[k]? = some c := ⟨_, List.getElem?_eq_getElem (by rw [HLL.out]; exact hlt)⟩
      have hcell := (HB2.out.2 k c hc).1
      obtain ⟨v, hv⟩ : ∃ v, leL (l.data.toList.take k) = v := ⟨_, rfl⟩
      rw [hv]
      have HC := Lib.hid hc
      have HV := Lib.hid hv
      clear hc hv
      go_wp2
      have hor := HOR.out k c hlt HC.out
      rw [HV.out] at hor
      go_roundw
      case rel => exact ⟨k + 1, by go_num, by rw [hor], by omega, trivial⟩
      case measure => simp [intOf]; omega
    · obtain rfl : k = n := by omega
      rw [show l.data.toList.take k = l.data.toList from List.take_of_length_le (by rw [HLL.out]; exact Nat.le_refl _)]
      clear HOR
      obtain ⟨v, hv⟩ : ∃ v, leL l.data.toList = v := ⟨_, rfl⟩
      rw [hv]
      have HV := Lib.hid hv
      clear hv
      go_wp2
      go_ret
      exact ⟨by rw [HV.out]; rfl, HL2.out, HKK.out⟩
theorem rnum_1 {W w : World} {B g : Nat} {s : ByteArray} (h : Rd W B g s w) (hn : 1 ≤ s.size) (hs : s.size ≤ 1000000) :
    Calls Try.prog 22 #[.pointer (some ⟨g, 0, none⟩), .int .i64 1] w fun e w' => e = .returned (.int .u64 (leL (s.extract 0 1).data.toList)) ∧ Rd W B g (s.extract 1 s.size) w' ∧ Keeps (only g) w w' := rnum_any h 1 hn hs (by omega) (wrong1 0 (by decide) (by decide) w)
theorem rnum_4 {W w : World} {B g : Nat} {s : ByteArray} (h : Rd W B g s w) (hn : 4 ≤ s.size) (hs : s.size ≤ 1000000) :
    Calls Try.prog 22 #[.pointer (some ⟨g, 0, none⟩), .int .i64 4] w fun e w' => e = .returned (.int .u64 (leL (s.extract 0 4).data.toList)) ∧ Rd W B g (s.extract 4 s.size) w' ∧ Keeps (only g) w w' := rnum_any h 4 hn hs (by omega) (wrong4 0 (by decide) (by decide) w)
theorem rnum_8 {W w : World} {B g : Nat} {s : ByteArray} (h : Rd W B g s w) (hn : 8 ≤ s.size) (hs : s.size ≤ 1000000) :
    Calls Try.prog 22 #[.pointer (some ⟨g, 0, none⟩), .int .i64 8] w fun e w' => e = .returned (.int .u64 (leL (s.extract 0 8).data.toList)) ∧ Rd W B g (s.extract 8 s.size) w' ∧ Keeps (only g) w w' := rnum_any h 8 hn hs (by omega) (wrong8 0 w)
theorem Rd.drew {W w : World} {B g : Nat} {s : ByteArray} (h : Rd W B g s w) : Rd W B g s w.drew := ⟨h.1.drew, h.2.1.drew, h.2.2⟩
theorem Rd.alloc {W w : World} {B g : Nat} {s : ByteArray} (h : Rd W B g s w) (o : Obj) : Rd W B g s (w.alloc o) :=
  ⟨h.1.alloc o, h.2.1.alloc (by have := h.1.lt; have := h.2.2; omega) o, h.2.2⟩
theorem Rd.then_ {W w w' : World} {B g : Nat} {s : ByteArray} (h : Rd W B g s w) (hb : Below w.heap.size w w') : Rd W B g s w' :=
  ⟨h.1.below hb h.1.lt, h.2.1.trans (hb.mono (by have := h.1.lt; have := h.2.2; omega)), h.2.2⟩
/-- A number's bytes tell the number. -/
theorem le_low (v : Int) (n : Nat) (h0 : 0 ≤ v) (h1 : v < ((256 ^ n : Nat) : Int)) : leL ((lowB v n).map fun x => UInt8.ofNat x.toNat) = v := by
  induction n generalizing v with
  | zero => show (0 : Int) = v; simp at h1; omega
  | succ n ih =>
    rw [Nat.pow_succ, Int.natCast_mul] at h1
    show ((UInt8.ofNat (v % 256).toNat).toNat : Int) + 256 * leL ((lowB (v / 256) n).map fun x => UInt8.ofNat x.toNat) = v
    rw [ih (v / 256) (by omega) (by omega)]
    have : (UInt8.ofNat (v % 256).toNat).toNat = (v % 256).toNat := by
      rw [UInt8.toNat_ofNat']
      omega
    rw [this]
    omega
theorem numT_data (v : Int) (n : Nat) : (numT v n).data.toList = (lowB v n).map fun x => UInt8.ofNat x.toNat := rfl
theorem numT_size (v : Int) (n : Nat) : (numT v n).size = n := by
  show (numT v n).data.size = n
  rw [← Array.length_toList, numT_data, List.length_map, lowB_len]
theorem le_num (v : Int) (n : Nat) (h0 : 0 ≤ v) (h1 : v < ((256 ^ n : Nat) : Int)) : leL (numT v n).data.toList = v := le_low v n h0 h1
end Go.Proofs.Ytacogpogplionaa.WI
