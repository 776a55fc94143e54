/- rec: what a record's bytes are; block.Right, wrong, body. No condition. -/
import Derived.Test.YtmfbggdoejcpiaaRec1
import Derived.Test.YtmfbggdoejcpiaaRegInv2
import Derived.Test.YtmfbggdoejcpiaaRegTail
namespace Go.Proofs.Ytmfbggdoejcpiaa.RC
open Go.RowKit Go.Proofs.Ytmfbggdoejcpiaa.WI Go.Proofs.Ytmfbggdoejcpiaa.SM
set_option linter.unusedVariables false
set_option linter.unusedSimpArgs false

abbrev TIm : TypeId := 48
structure Im where
  b : Int
  v : Int
  d : ByteArray
abbrev im0 : Im := ⟨0, 0, ⟨#[]⟩⟩
def ival (x : Im) : List Value := [.int .i64 x.b, .int .u64 x.v, .string x.d]
def iagg (x : Im) : Value := .agg #[.int .i64 x.b, .int .u64 x.v, .string x.d]
def rightB (x : Im) : Bool := decide (0 ≤ x.b) && decide (x.b < 4096) && decide (x.d.size = 96)
/-- An image that came in. -/
structure ImOk (x : Im) : Prop where
  b : -9223372036854775808 ≤ x.b ∧ x.b ≤ 9223372036854775807
  v : 0 ≤ x.v ∧ x.v ≤ 18446744073709551615
  d : x.d.size ≤ 9223372036854775807
/-- A row of images in memory. -/
def Ims (w : World) (A : Option Addr) (n c : Nat) (xs : List Im) : Prop :=
  n ≤ c ∧ c ≤ maxLen ∧ xs.length = n ∧ (∀ x ∈ xs, ImOk x) ∧ (0 < n → ∃ b off, A = some ⟨b, off, none⟩ ∧ b < w.heap.size ∧ ∀ i x, xs[i]? = some x → ∀ j u, (ival x)[j]? = some u → w.cell? ⟨b, off + (i * 3 + j), none⟩ = some u)
section
variable {w W : World} {A : Option Addr} {n c : Nat} {xs : List Im}
theorem Ims.old (h : Ims w A n c xs) (hb : Below w.heap.size w W) : Ims W A n c xs := by
  obtain ⟨h1, h2, h3, h4, h5⟩ := h
  refine ⟨h1, h2, h3, h4, fun h0 => ?_⟩
  obtain ⟨b, off, e, hlt, hc⟩ := h5 h0
  refine ⟨b, off, e, Nat.lt_of_lt_of_le hlt hb.size, fun i o ho j u hu => ?_⟩
  rw [hb.cell hlt]
  exact hc i o ho j u hu
theorem Ims.at_ (h : Ims w A n c xs) {k : Nat} (hk : k < n) : ∃ b off x, A = some ⟨b, off, none⟩ ∧ xs[k]? = some x ∧ ImOk x ∧ b < w.heap.size ∧ (k : Int) < (c : Int) ∧
    w.cell? ⟨b, off + k * 3, none⟩ = some (.int .i64 x.b) ∧ w.cell? ⟨b, off + k * 3 + 1, none⟩ = some (.int .u64 x.v) ∧ w.cell? ⟨b, off + k * 3 + 2, none⟩ = some (.string x.d) := by
  obtain ⟨h1, h2, h3, h4, h5⟩ := h
  obtain ⟨b, off, e, hlt, hc⟩ := h5 (by omega)
  obtain ⟨o, ho⟩ : ∃ o, xs[k]? = some o := ⟨_, List.getElem?_eq_getElem (by omega)⟩
  have g := hc k o ho
  refine ⟨b, off, o, e, ho, h4 o (List.mem_of_getElem? ho), hlt, by omega, g 0 _ rfl, ?_, ?_⟩
  · have := g 1 _ rfl; rwa [← Nat.add_assoc] at this
  · have := g 2 _ rfl; rwa [← Nat.add_assoc] at this
end
theorem right_any (x : Im) (w : World) (hx : ImOk x) : Calls Try.prog 29 #[iagg x] w fun e w' => e = .returned (.bool (rightB x)) ∧ Below w.heap.size w w' := by
  obtain ⟨b, v, d⟩ := x
  have h1 := hx.b
  have h3 := hx.d
  dsimp only at h1 h3
  unfold rightB iagg
  dsimp only
  obtain ⟨s, hs⟩ : ∃ s, d.size = s := ⟨_, rfl⟩
  have hd := fun w => (Below.refl _ w).alloc (Nat.le_refl _) (.cells #[.int .i64 b, .int .u64 v, .string d] TIm)
  rw [hs] at h3 ⊢
  clear hx
  by_cases b1 : 0 ≤ b
  · by_cases b2 : b < 4096
    · have c1 : decide (0 ≤ b) = true := by simpa using b1
      have c2 : decide (b < 4096) = true := by simpa using b2
      by_cases b3 : s = 96
      · have c3 : ((s : Int) == 96) = true := by simp; omega
        have r : (decide (0 ≤ b) && decide (b < 4096) && decide (s = 96)) = true := by simp [b1, b2, b3]
        rw [r]
        clear r b3 b1 b2
        go_enter Try.func29, Try.ntmps29
        go_wp2
        go_ret
        exact ⟨ret_bool (by first | rfl | simp), hd w⟩
      · have c3 : ((s : Int) == 96) = false := by simp; omega
        have r : (decide (0 ≤ b) && decide (b < 4096) && decide (s = 96)) = false := by simp [b3]
        rw [r]
        clear r b3 b1 b2
        go_enter Try.func29, Try.ntmps29
        go_wp2
        go_ret
        exact ⟨ret_bool (by first | rfl | simp), hd w⟩
    · have c1 : decide (0 ≤ b) = true := by simpa using b1
      have c2 : decide (b < 4096) = false := by simpa using b2
      have r : (decide (0 ≤ b) && decide (b < 4096) && decide (s = 96)) = false := by simp [b2]
      rw [r]
      clear r b1 b2
      go_enter Try.func29, Try.ntmps29
      go_wp2
      go_ret
      exact ⟨ret_bool (by first | rfl | simp), hd w⟩
  · have c1 : decide (0 ≤ b) = false := by simpa using b1
    have r : (decide (0 ≤ b) && decide (b < 4096) && decide (s = 96)) = false := by simp [b1]
    rw [r]
    clear r b1
    go_enter Try.func29, Try.ntmps29
    go_wp2
    go_ret
    exact ⟨ret_bool (by first | rfl | simp), hd w⟩

/-- Of the first k: all may be, and their numbers rise. -/
def riseB (xs : List Im) : Nat → Bool
  | 0 => true
  | k + 1 => riseB xs k && rightB (xs.getD k im0) && (k == 0 || decide ((xs.getD (k - 1) im0).b < (xs.getD k im0).b))
def wrongE (e l : Int) (xs : List Im) : Int := if e = 0 ∨ l = 0 ∨ xs.length = 0 then 1 else if riseB xs xs.length then (if 60 < xs.length then 2 else 0) else 1
theorem rise_no {xs : List Im} {k n : Nat} (h : riseB xs k = false) (hk : k ≤ n) : riseB xs n = false := by
  induction n with
  | zero =>
    have : k = 0 := by omega
    rw [this] at h
    exact h
  | succ n ih =>
    by_cases e : k = n + 1
    · subst e; exact h
    · unfold riseB; rw [ih (by omega)]; rfl
set_option maxHeartbeats 4000000 in
theorem wrong_any (e l : Int) (A : Option Addr) (n c : Nat) (xs : List Im) (w : World) (h : Ims w A n c xs) :
    Calls Try.prog 18 #[.agg #[.int .u64 e, .int .u64 l, .slice A n c]] w fun x w' => x = .returned (.int .i64 (wrongE e l xs)) ∧ Below w.heap.size w w' := by
  have hln := h.2.2.1
  have hlc := h.1
  have hcm := h.2.1
  unfold maxLen at hcm
  unfold wrongE
  rw [hln]
  by_cases e0 : e = 0
  · subst e0
    rw [if_pos (.inl rfl)]
    clear h hln
    go_enter Try.func18, Try.ntmps18
    go_wp2
    go_ret
    exact ⟨rfl, (Below.refl _ w).alloc (Nat.le_refl _) _⟩
  have n1 : (e == 0) = false := by simpa using e0
  by_cases l0 : l = 0
  · subst l0
    rw [if_pos (.inr (.inl rfl))]
    clear h hln
    go_enter Try.func18, Try.ntmps18
    go_wp2
    go_ret
    exact ⟨rfl, (Below.refl _ w).alloc (Nat.le_refl _) _⟩
  have n2 : (l == 0) = false := by simpa using l0
  by_cases z0 : n = 0
  · subst z0
    rw [if_pos (.inr (.inr rfl))]
    clear h hln
    go_enter Try.func18, Try.ntmps18
    go_wp2
    go_ret
    exact ⟨rfl, (Below.refl _ w).alloc (Nat.le_refl _) _⟩
  have n3 : ((n : Int) == 0) = false := by simp; omega
  rw [if_neg (by rintro (e | e | e); exact e0 e; exact l0 e; exact z0 e)]
  have HX := Lib.hid h
  obtain ⟨R, hR⟩ : ∃ R : Int, (if riseB xs n = true then (if 60 < n then 2 else 0) else 1) = R := ⟨_, rfl⟩
  have HR := Lib.hid hR
  have HN := Lib.hid hln
  rw [hR]
  clear h hln hR e0 l0 z0
  go_enter Try.func18, Try.ntmps18
  go_upto_region 3 with fail
  have hb1 := Blk.new w 25 #[.int .u64 e, .int .u64 l, .slice A n c]
  have hbl : Below w.heap.size w (w.alloc (.cells #[.int .u64 e, .int .u64 l, .slice A n c] 25)) := (Below.refl _ w).alloc (Nat.le_refl _) _
  obtain ⟨W1, hW1⟩ : ∃ W1, w.alloc (.cells #[.int .u64 e, .int .u64 l, .slice A n c] 25) = W1 := ⟨_, rfl⟩
  rw [hW1] at hb1 hbl ⊢
  obtain ⟨x0, hx0⟩ : ∃ x, w.heap.size = x := ⟨_, rfl⟩
  have HXX := Lib.hid hx0
  rw [hx0] at hb1 ⊢
  have C2 : Hid (W1.cell? ⟨x0, 2, none⟩ = some (.slice A n c)) := Lib.hid (hb1.cell 2)
  have HLT : Hid (x0 < W1.heap.size) := Lib.hid hb1.lt
  have c2 := C2.out
  have HBL := Lib.hid hbl
  clear hb1 hbl hW1 hx0
  go_wp2_with fail
  clear c2
  go_loopw [3, 4, 22] (fun _ _ i wr => ∃ k : Nat, i = .int .i64 (k : Int) ∧ k ≤ n ∧ Hid (riseB xs k = true ∧ Below W1.heap.size W1 wr)) (fun _ _ i _ => n - (intOf i).toNat)
  case atStart => exact ⟨0, rfl, by omega, Lib.hid ⟨rfl, belowSame _⟩⟩
  case round =>
    obtain ⟨k, rfl, hk, HK⟩ := hrel
    by_cases hlt : k < n
    · obtain ⟨b, off, x, rfl, hx, hok, hbl, hkc, c0, c1, c2⟩ := ((HX.out.old HBL.out).old HK.out.2).at_ hlt
      have e1 : IntKind.i64.wrap ((k : Int) + 1) = (k : Int) + 1 := IntWalk.i64_in _ (by omega)
      have hgk : xs.getD k im0 = x := by rw [List.getD_eq_getElem?_getD, hx]; rfl
      go_upto_region 6 with fail
      have hbx := Blk.new wr TIm #[.int .i64 x.b, .int .u64 x.v, .string x.d]
      have hb2 : Below W1.heap.size W1 (wr.alloc (.cells #[.int .i64 x.b, .int .u64 x.v, .string x.d] TIm)) := HK.out.2.alloc HK.out.2.size _
      obtain ⟨W2, hW2⟩ : ∃ W2, wr.alloc (.cells #[.int .i64 x.b, .int .u64 x.v, .string x.d] TIm) = W2 := ⟨_, rfl⟩
      rw [hW2] at hbx hb2 ⊢
      have hp : ∀ j : Nat, k = j + 1 → ∃ y, xs.getD j im0 = y ∧ W2.cell? ⟨b, off + j * 3, none⟩ = some (.int .i64 y.b) := fun j hj => by
        obtain ⟨b', off', y, e, hy, _, _, _, y0, _, _⟩ := ((HX.out.old HBL.out).old hb2).at_ (show j < n by omega)
        injection e with e
        injection e with e1 e2
        subst e1 e2
        exact ⟨y, by rw [List.getD_eq_getElem?_getD, hy]; rfl, y0⟩
      obtain ⟨q, hq⟩ : ∃ q, wr.heap.size = q := ⟨_, rfl⟩
      rw [hq] at hbx ⊢
      have d0 : W2.cell? ⟨q, 0, none⟩ = some (.int .i64 x.b) := hbx.cell 0
      have d1 : W2.cell? ⟨q, 1, none⟩ = some (.int .u64 x.v) := hbx.cell 1
      have d2 : W2.cell? ⟨q, 2, none⟩ = some (.string x.d) := hbx.cell 2
      have s2 : W2.cell? ⟨x0, 2, none⟩ = some (.slice (some ⟨b, off, none⟩) n c) := (hb2.cell (p := ⟨x0, 2, none⟩) HLT.out).trans C2.out
      have kr := fun W => right_any x W hok
      have HB2 := Lib.hid hb2
      have HP := Lib.hid hp
      have HGK := Lib.hid hgk
      have HQ : Hid (q < W2.heap.size) := Lib.hid hbx.lt
      have HX0 : Hid (x0 < W2.heap.size) := Lib.hid (Nat.lt_of_lt_of_le HLT.out hb2.size)
      obtain ⟨rb, hrb⟩ : ∃ rb, rightB x = rb := ⟨_, rfl⟩
      have KRR := Lib.hid hrb
      rw [hrb] at kr
      have KRB := Lib.hid kr
      clear hbx hb2 hW2 hp hgk hrb kr c0 c1 c2 hq
      cases rb
      · have hR1 : riseB xs n = false := rise_no (k := k + 1) (by unfold riseB; rw [HGK.out, KRR.out]; simp) (by omega)
        have hRR := HR.out
        rw [hR1, if_neg (by decide)] at hRR
        subst hRR
        clear hR1
        refine wp_region_inv (fun i' v' w' => ([(fun v' _ => v' = (.agg #[.int .i64 x.b, .int .u64 x.v, .string x.d])), (fun v' _ => v' = (.bool false)), (fun v' _ => v' = (.bool true)), (fun v' _ => v' = (.bool true)), (fun v' _ => v' = undef), (fun v' _ => v' = undef), (fun v' _ => v' = undef), (fun v' _ => v' = undef), (fun v' _ => v' = undef), (fun v' _ => v' = undef), (fun v' _ => v' = undef), (fun v' _ => v' = undef), (fun v' _ => v' = undef), (fun v' _ => v' = undef), (fun v' _ => v' = undef), (fun v' _ => v' = undef), (fun v' _ => v' = undef), (fun v' _ => v' = undef), (fun v' _ => v' = (Value.bool true))] : List (Value → World → Prop)).getD i' (fun _ _ => True) v' w') (by kernel_rfl) (by kernel_rfl) (stab_list (by
            repeat (first | exact allStab_nil | refine allStab_cons (stab_eq _) ?_ | refine allStab_cons (stab_slice _ _) ?_))) ?_ ?_
        · refine steps_cons rfl ?_ ?_
          · intro a w hR K hK
            have e4 : a.tmps.getD 4 undef = (.pointer (some ⟨q, 0, none⟩)) := hR.old 4 (by kernel_rfl) rfl
            rw [if_pos (wanted_none rfl)]
            have hc0 := (hR.bel.cell (p := ⟨q, 0, none⟩) HQ.out).trans d0
            have hc1 := (hR.bel.cell (p := ⟨q, 1, none⟩) HQ.out).trans d1
            have hc2 := (hR.bel.cell (p := ⟨q, 2, none⟩) HQ.out).trans d2
            clear hR
            go_simp
            exact hK _ _ (belowSame _) rfl
          refine steps_cons rfl ?_ ?_
          · intro a w hR K hK
            obtain ⟨v27, e27, _, q27⟩ := hR.val 0 27 (by kernel_rfl) (by kernel_rfl)
            obtain rfl : v27 = (.agg #[.int .i64 x.b, .int .u64 x.v, .string x.d]) := q27
            rw [if_pos (wanted_none rfl)]
            have hB := hR.bel
            clear hR
            go_simp
            refine (KRB.out _).mono ?_
            rintro e w' ⟨rfl, hw⟩
            exact hK _ _ (by first | exact belowOfEq hw | exact hw) rfl
          refine steps_cons rfl ?_ ?_
          · intro a w hR K hK
            obtain ⟨v28, e28, _, q28⟩ := hR.val 1 28 (by kernel_rfl) (by kernel_rfl)
            obtain rfl : v28 = (.bool false) := q28
            rw [if_pos (wanted_none rfl)]
            have hB := hR.bel
            clear hR
            go_simp
            exact hK _ _ (belowSame _) rfl
          refine steps_cons rfl ?_ ?_
          · intro a w hR K hK
            obtain ⟨v29, e29, _, q29⟩ := hR.val 2 29 (by kernel_rfl) (by kernel_rfl)
            obtain rfl : v29 = (.bool true) := q29
            rw [if_pos (wanted_none rfl)]
            have hB := hR.bel
            clear hR
            go_simp
            exact hK _ _ (belowSame _) rfl
          refine steps_cons rfl ?_ ?_
          · intro a w hR K hK
            rw [if_neg (hR.unwants (o := _) (g := 3) (b := false) rfl (by kernel_rfl : depB _ 3 = true) (by kernel_rfl : dstAt _ 3 = some 30) (fun _ h => .inl h))]
            exact hK _ _ (belowSame _) rfl
          refine steps_cons rfl ?_ ?_
          · intro a w hR K hK
            rw [if_neg (hR.unwants (o := _) (g := 3) (b := false) rfl (by kernel_rfl : depB _ 3 = true) (by kernel_rfl : dstAt _ 3 = some 30) (fun _ h => .inl h))]
            exact hK _ _ (belowSame _) rfl
          refine steps_cons rfl ?_ ?_
          · intro a w hR K hK
            rw [if_neg (hR.unwants (o := _) (g := 3) (b := false) rfl (by kernel_rfl : depB _ 3 = true) (by kernel_rfl : dstAt _ 3 = some 30) (fun _ h => .inl h))]
            exact hK _ _ (belowSame _) rfl
          refine steps_cons rfl ?_ ?_
          · intro a w hR K hK
            rw [if_neg (hR.unwants (o := _) (g := 6) (b := true) rfl (by kernel_rfl : depB _ 6 = true) (by kernel_rfl : dstAt _ 6 = some 33) (fun _ h => .inr h))]
            exact hK _ _ (belowSame _) rfl
          refine steps_cons rfl ?_ ?_
          · intro a w hR K hK
            rw [if_neg (hR.unwants (o := _) (g := 6) (b := true) rfl (by kernel_rfl : depB _ 6 = true) (by kernel_rfl : dstAt _ 6 = some 33) (fun _ h => .inr h))]
            exact hK _ _ (belowSame _) rfl
          refine steps_cons rfl ?_ ?_
          · intro a w hR K hK
            rw [if_neg (hR.unwants (o := _) (g := 6) (b := true) rfl (by kernel_rfl : depB _ 6 = true) (by kernel_rfl : dstAt _ 6 = some 33) (fun _ h => .inr h))]
            exact hK _ _ (belowSame _) rfl
          refine steps_cons rfl ?_ ?_
          · intro a w hR K hK
            rw [if_neg (hR.unwants (o := _) (g := 6) (b := true) rfl (by kernel_rfl : depB _ 6 = true) (by kernel_rfl : dstAt _ 6 = some 33) (fun _ h => .inr h))]
            exact hK _ _ (belowSame _) rfl
          refine steps_cons rfl ?_ ?_
          · intro a w hR K hK
            rw [if_neg (hR.unwants (o := _) (g := 6) (b := true) rfl (by kernel_rfl : depB _ 6 = true) (by kernel_rfl : dstAt _ 6 = some 33) (fun _ h => .inr h))]
            exact hK _ _ (belowSame _) rfl
          refine steps_cons rfl ?_ ?_
          · intro a w hR K hK
            rw [if_neg (hR.unwants (o := _) (g := 6) (b := true) rfl (by kernel_rfl : depB _ 6 = true) (by kernel_rfl : dstAt _ 6 = some 33) (fun _ h => .inr h))]
            exact hK _ _ (belowSame _) rfl
          refine steps_cons rfl ?_ ?_
          · intro a w hR K hK
            rw [if_neg (hR.unwants (o := _) (g := 6) (b := true) rfl (by kernel_rfl : depB _ 6 = true) (by kernel_rfl : dstAt _ 6 = some 33) (fun _ h => .inr h))]
            exact hK _ _ (belowSame _) rfl
          refine steps_cons rfl ?_ ?_
          · intro a w hR K hK
            rw [if_neg (hR.unwants (o := _) (g := 6) (b := true) rfl (by kernel_rfl : depB _ 6 = true) (by kernel_rfl : dstAt _ 6 = some 33) (fun _ h => .inr h))]
            exact hK _ _ (belowSame _) rfl
          refine steps_cons rfl ?_ ?_
          · intro a w hR K hK
            rw [if_neg (hR.unwants (o := _) (g := 6) (b := true) rfl (by kernel_rfl : depB _ 6 = true) (by kernel_rfl : dstAt _ 6 = some 33) (fun _ h => .inr h))]
            exact hK _ _ (belowSame _) rfl
          refine steps_cons rfl ?_ ?_
          · intro a w hR K hK
            rw [if_neg (hR.unwants (o := _) (g := 6) (b := true) rfl (by kernel_rfl : depB _ 6 = true) (by kernel_rfl : dstAt _ 6 = some 33) (fun _ h => .inr h))]
            exact hK _ _ (belowSame _) rfl
          refine steps_cons rfl ?_ ?_
          · intro a w hR K hK
            rw [if_neg (hR.unwants (o := _) (g := 3) (b := false) rfl (by kernel_rfl : depB _ 3 = true) (by kernel_rfl : dstAt _ 3 = some 30) (fun _ h => .inl h))]
            exact hK _ _ (belowSame _) rfl
          refine steps_cons rfl ?_ ?_
          · intro a w hR K hK
            obtain ⟨v30, e30, _, q30⟩ := hR.val 3 30 (by kernel_rfl) (by kernel_rfl)
            obtain rfl : v30 = (.bool true) := q30
            obtain ⟨v44, e44, _, q44⟩ := hR.val 17 44 (by kernel_rfl) (by kernel_rfl)
            obtain rfl : v44 = undef := q44
            rw [if_pos (wanted_none rfl)]
            have hB := hR.bel
            clear hR
            go_simp
            exact hK _ _ (belowSame _) rfl
          exact steps_nil
        · intro a' w' hF
          obtain ⟨v45, e45, _, q45⟩ := hF.val 18 45 (by decide) (by kernel_rfl)
          obtain rfl : v45 = (Value.bool true) := q45
          have hB := belowUndrew hF.bel
          have hf := hF.frame
          rw [show dsts _ = [27, 28, 29, 30, 31, 32, 33, 34, 35, 36, 37, 38, 39, 40, 41, 42, 43, 44, 45] from by kernel_rfl] at hf
          obtain ⟨z27, h27⟩ : ∃ z, a'.tmps.getD 27 undef = z := ⟨_, rfl⟩
          obtain ⟨z28, h28⟩ : ∃ z, a'.tmps.getD 28 undef = z := ⟨_, rfl⟩
          obtain ⟨z29, h29⟩ : ∃ z, a'.tmps.getD 29 undef = z := ⟨_, rfl⟩
          obtain ⟨z30, h30⟩ : ∃ z, a'.tmps.getD 30 undef = z := ⟨_, rfl⟩
          obtain ⟨z31, h31⟩ : ∃ z, a'.tmps.getD 31 undef = z := ⟨_, rfl⟩
          obtain ⟨z32, h32⟩ : ∃ z, a'.tmps.getD 32 undef = z := ⟨_, rfl⟩
          obtain ⟨z33, h33⟩ : ∃ z, a'.tmps.getD 33 undef = z := ⟨_, rfl⟩
          obtain ⟨z34, h34⟩ : ∃ z, a'.tmps.getD 34 undef = z := ⟨_, rfl⟩
          obtain ⟨z35, h35⟩ : ∃ z, a'.tmps.getD 35 undef = z := ⟨_, rfl⟩
          obtain ⟨z36, h36⟩ : ∃ z, a'.tmps.getD 36 undef = z := ⟨_, rfl⟩
          obtain ⟨z37, h37⟩ : ∃ z, a'.tmps.getD 37 undef = z := ⟨_, rfl⟩
          obtain ⟨z38, h38⟩ : ∃ z, a'.tmps.getD 38 undef = z := ⟨_, rfl⟩
          obtain ⟨z39, h39⟩ : ∃ z, a'.tmps.getD 39 undef = z := ⟨_, rfl⟩
          obtain ⟨z40, h40⟩ : ∃ z, a'.tmps.getD 40 undef = z := ⟨_, rfl⟩
          obtain ⟨z41, h41⟩ : ∃ z, a'.tmps.getD 41 undef = z := ⟨_, rfl⟩
          obtain ⟨z42, h42⟩ : ∃ z, a'.tmps.getD 42 undef = z := ⟨_, rfl⟩
          obtain ⟨z43, h43⟩ : ∃ z, a'.tmps.getD 43 undef = z := ⟨_, rfl⟩
          obtain ⟨z44, h44⟩ : ∃ z, a'.tmps.getD 44 undef = z := ⟨_, rfl⟩
          simp only [List.foldl_cons, List.foldl_nil, h27, h28, h29, h30, h31, h32, h33, h34, h35, h36, h37, h38, h39, h40, h41, h42, h43, h44, e45] at hf
          simp only [List.setIfInBounds_toArray, List.set_cons_zero, List.set_cons_succ] at hf
          clear hF e45 h27 h28 h29 h30 h31 h32 h33 h34 h35 h36 h37 h38 h39 h40 h41 h42 h43 h44
          subst hf
          have HB3 := Lib.hid (HB2.out.trans (hB.mono HB2.out.size))
          clear hB
          go_wp2_with fail
          go_ret
          exact ⟨rfl, HBL.out.trans (HB3.out.mono HBL.out.size)⟩
      · rcases Nat.eq_zero_or_pos k with hk0 | hk0
        · subst hk0
          have hri : riseB xs 1 = true := by unfold riseB riseB; rw [HGK.out, KRR.out]; rfl
          have HRI := Lib.hid hri
          clear hri
          refine wp_region_inv (fun i' v' w' => ([(fun v' _ => v' = (.agg #[.int .i64 x.b, .int .u64 x.v, .string x.d])), (fun v' _ => v' = (.bool true)), (fun v' _ => v' = (.bool false)), (fun v' _ => v' = (.bool false)), (fun v' _ => v' = (.int .i64 ((0 : Nat) : Int))), (fun v' _ => v' = (.bool false)), (fun v' _ => v' = (.bool false)), (fun v' _ => v' = undef), (fun v' _ => v' = undef), (fun v' _ => v' = undef), (fun v' _ => v' = undef), (fun v' _ => v' = undef), (fun v' _ => v' = undef), (fun v' _ => v' = undef), (fun v' _ => v' = undef), (fun v' _ => v' = undef), (fun v' _ => v' = undef), (fun v' _ => v' = (Value.bool false)), (fun v' _ => v' = (Value.bool false))] : List (Value → World → Prop)).getD i' (fun _ _ => True) v' w') (by kernel_rfl) (by kernel_rfl) (stab_list (by
              repeat (first | exact allStab_nil | refine allStab_cons (stab_eq _) ?_ | refine allStab_cons (stab_slice _ _) ?_))) ?_ ?_
          · refine steps_cons rfl ?_ ?_
            · intro a w hR K hK
              have e4 : a.tmps.getD 4 undef = (.pointer (some ⟨q, 0, none⟩)) := hR.old 4 (by kernel_rfl) rfl
              rw [if_pos (wanted_none rfl)]
              have hc0 := (hR.bel.cell (p := ⟨q, 0, none⟩) HQ.out).trans d0
              have hc1 := (hR.bel.cell (p := ⟨q, 1, none⟩) HQ.out).trans d1
              have hc2 := (hR.bel.cell (p := ⟨q, 2, none⟩) HQ.out).trans d2
              clear hR
              go_simp
              exact hK _ _ (belowSame _) rfl
            refine steps_cons rfl ?_ ?_
            · intro a w hR K hK
              obtain ⟨v27, e27, _, q27⟩ := hR.val 0 27 (by kernel_rfl) (by kernel_rfl)
              obtain rfl : v27 = (.agg #[.int .i64 x.b, .int .u64 x.v, .string x.d]) := q27
              rw [if_pos (wanted_none rfl)]
              have hB := hR.bel
              clear hR
              go_simp
              refine (KRB.out _).mono ?_
              rintro e w' ⟨rfl, hw⟩
              exact hK _ _ (by first | exact belowOfEq hw | exact hw) rfl
            refine steps_cons rfl ?_ ?_
            · intro a w hR K hK
              obtain ⟨v28, e28, _, q28⟩ := hR.val 1 28 (by kernel_rfl) (by kernel_rfl)
              obtain rfl : v28 = (.bool true) := q28
              rw [if_pos (wanted_none rfl)]
              have hB := hR.bel
              clear hR
              go_simp
              exact hK _ _ (belowSame _) rfl
            refine steps_cons rfl ?_ ?_
            · intro a w hR K hK
              obtain ⟨v29, e29, _, q29⟩ := hR.val 2 29 (by kernel_rfl) (by kernel_rfl)
              obtain rfl : v29 = (.bool false) := q29
              rw [if_pos (wanted_none rfl)]
              have hB := hR.bel
              clear hR
              go_simp
              exact hK _ _ (belowSame _) rfl
            refine steps_cons rfl ?_ ?_
            · intro a w hR K hK
              have e3 : a.tmps.getD 3 undef = (.int .i64 ((0 : Nat) : Int)) := hR.old 3 (by kernel_rfl) rfl
              rw [if_pos (hR.wants (o := _) rfl (by kernel_rfl : depB _ 3 = true) (by kernel_rfl : dstAt _ 3 = some 30) (fun _ h => h))]
              have hB := hR.bel
              clear hR
              go_simp
              exact hK _ _ (belowSame _) rfl
            refine steps_cons rfl ?_ ?_
            · intro a w hR K hK
              obtain ⟨v31, e31, _, q31⟩ := hR.val 4 31 (by kernel_rfl) (by kernel_rfl)
              obtain rfl : v31 = (.int .i64 ((0 : Nat) : Int)) := q31
              rw [if_pos (hR.wants (o := _) rfl (by kernel_rfl : depB _ 3 = true) (by kernel_rfl : dstAt _ 3 = some 30) (fun _ h => h))]
              have hB := hR.bel
              clear hR
              go_simp
              exact hK _ _ (belowSame _) rfl
            refine steps_cons rfl ?_ ?_
            · intro a w hR K hK
              obtain ⟨v32, e32, _, q32⟩ := hR.val 5 32 (by kernel_rfl) (by kernel_rfl)
              obtain rfl : v32 = (.bool false) := q32
              rw [if_pos (hR.wants (o := _) rfl (by kernel_rfl : depB _ 3 = true) (by kernel_rfl : dstAt _ 3 = some 30) (fun _ h => h))]
              have hB := hR.bel
              clear hR
              go_simp
              exact hK _ _ (belowSame _) rfl
            refine steps_cons rfl ?_ ?_
            · intro a w hR K hK
              rw [if_neg (hR.unwants (o := _) (g := 6) (b := true) rfl (by kernel_rfl : depB _ 6 = true) (by kernel_rfl : dstAt _ 6 = some 33) (fun _ h => .inl h))]
              exact hK _ _ (belowSame _) rfl
            refine steps_cons rfl ?_ ?_
            · intro a w hR K hK
              rw [if_neg (hR.unwants (o := _) (g := 6) (b := true) rfl (by kernel_rfl : depB _ 6 = true) (by kernel_rfl : dstAt _ 6 = some 33) (fun _ h => .inl h))]
              exact hK _ _ (belowSame _) rfl
            refine steps_cons rfl ?_ ?_
            · intro a w hR K hK
              rw [if_neg (hR.unwants (o := _) (g := 6) (b := true) rfl (by kernel_rfl : depB _ 6 = true) (by kernel_rfl : dstAt _ 6 = some 33) (fun _ h => .inl h))]
              exact hK _ _ (belowSame _) rfl
            refine steps_cons rfl ?_ ?_
            · intro a w hR K hK
              rw [if_neg (hR.unwants (o := _) (g := 6) (b := true) rfl (by kernel_rfl : depB _ 6 = true) (by kernel_rfl : dstAt _ 6 = some 33) (fun _ h => .inl h))]
              exact hK _ _ (belowSame _) rfl
            refine steps_cons rfl ?_ ?_
            · intro a w hR K hK
              rw [if_neg (hR.unwants (o := _) (g := 6) (b := true) rfl (by kernel_rfl : depB _ 6 = true) (by kernel_rfl : dstAt _ 6 = some 33) (fun _ h => .inl h))]
              exact hK _ _ (belowSame _) rfl
            refine steps_cons rfl ?_ ?_
            · intro a w hR K hK
              rw [if_neg (hR.unwants (o := _) (g := 6) (b := true) rfl (by kernel_rfl : depB _ 6 = true) (by kernel_rfl : dstAt _ 6 = some 33) (fun _ h => .inl h))]
              exact hK _ _ (belowSame _) rfl
            refine steps_cons rfl ?_ ?_
            · intro a w hR K hK
              rw [if_neg (hR.unwants (o := _) (g := 6) (b := true) rfl (by kernel_rfl : depB _ 6 = true) (by kernel_rfl : dstAt _ 6 = some 33) (fun _ h => .inl h))]
              exact hK _ _ (belowSame _) rfl
            refine steps_cons rfl ?_ ?_
            · intro a w hR K hK
              rw [if_neg (hR.unwants (o := _) (g := 6) (b := true) rfl (by kernel_rfl : depB _ 6 = true) (by kernel_rfl : dstAt _ 6 = some 33) (fun _ h => .inl h))]
              exact hK _ _ (belowSame _) rfl
            refine steps_cons rfl ?_ ?_
            · intro a w hR K hK
              rw [if_neg (hR.unwants (o := _) (g := 6) (b := true) rfl (by kernel_rfl : depB _ 6 = true) (by kernel_rfl : dstAt _ 6 = some 33) (fun _ h => .inl h))]
              exact hK _ _ (belowSame _) rfl
            refine steps_cons rfl ?_ ?_
            · intro a w hR K hK
              rw [if_neg (hR.unwants (o := _) (g := 6) (b := true) rfl (by kernel_rfl : depB _ 6 = true) (by kernel_rfl : dstAt _ 6 = some 33) (fun _ h => .inl h))]
              exact hK _ _ (belowSame _) rfl
            refine steps_cons rfl ?_ ?_
            · intro a w hR K hK
              obtain ⟨v33, e33, _, q33⟩ := hR.val 6 33 (by kernel_rfl) (by kernel_rfl)
              obtain rfl : v33 = (.bool false) := q33
              obtain ⟨v43, e43, _, q43⟩ := hR.val 16 43 (by kernel_rfl) (by kernel_rfl)
              obtain rfl : v43 = undef := q43
              rw [if_pos (hR.wants (o := _) rfl (by kernel_rfl : depB _ 3 = true) (by kernel_rfl : dstAt _ 3 = some 30) (fun _ h => h))]
              have hB := hR.bel
              clear hR
              go_simp
              exact hK _ _ (belowSame _) rfl
            refine steps_cons rfl ?_ ?_
            · intro a w hR K hK
              obtain ⟨v30, e30, _, q30⟩ := hR.val 3 30 (by kernel_rfl) (by kernel_rfl)
              obtain rfl : v30 = (.bool false) := q30
              obtain ⟨v44, e44, _, q44⟩ := hR.val 17 44 (by kernel_rfl) (by kernel_rfl)
              obtain rfl : v44 = (Value.bool false) := q44
              rw [if_pos (wanted_none rfl)]
              have hB := hR.bel
              clear hR
              go_simp
              exact hK _ _ (belowSame _) rfl
            exact steps_nil
          · intro a' w' hF
            obtain ⟨v45, e45, _, q45⟩ := hF.val 18 45 (by decide) (by kernel_rfl)
            obtain rfl : v45 = (Value.bool false) := q45
            have hB := belowUndrew hF.bel
            have hf := hF.frame
            rw [show dsts _ = [27, 28, 29, 30, 31, 32, 33, 34, 35, 36, 37, 38, 39, 40, 41, 42, 43, 44, 45] from by kernel_rfl] at hf
            obtain ⟨z27, h27⟩ : ∃ z, a'.tmps.getD 27 undef = z := ⟨_, rfl⟩
            obtain ⟨z28, h28⟩ : ∃ z, a'.tmps.getD 28 undef = z := ⟨_, rfl⟩
            obtain ⟨z29, h29⟩ : ∃ z, a'.tmps.getD 29 undef = z := ⟨_, rfl⟩
            obtain ⟨z30, h30⟩ : ∃ z, a'.tmps.getD 30 undef = z := ⟨_, rfl⟩
            obtain ⟨z31, h31⟩ : ∃ z, a'.tmps.getD 31 undef = z := ⟨_, rfl⟩
            obtain ⟨z32, h32⟩ : ∃ z, a'.tmps.getD 32 undef = z := ⟨_, rfl⟩
            obtain ⟨z33, h33⟩ : ∃ z, a'.tmps.getD 33 undef = z := ⟨_, rfl⟩
            obtain ⟨z34, h34⟩ : ∃ z, a'.tmps.getD 34 undef = z := ⟨_, rfl⟩
            obtain ⟨z35, h35⟩ : ∃ z, a'.tmps.getD 35 undef = z := ⟨_, rfl⟩
            obtain ⟨z36, h36⟩ : ∃ z, a'.tmps.getD 36 undef = z := ⟨_, rfl⟩
            obtain ⟨z37, h37⟩ : ∃ z, a'.tmps.getD 37 undef = z := ⟨_, rfl⟩
            obtain ⟨z38, h38⟩ : ∃ z, a'.tmps.getD 38 undef = z := ⟨_, rfl⟩
            obtain ⟨z39, h39⟩ : ∃ z, a'.tmps.getD 39 undef = z := ⟨_, rfl⟩
            obtain ⟨z40, h40⟩ : ∃ z, a'.tmps.getD 40 undef = z := ⟨_, rfl⟩
            obtain ⟨z41, h41⟩ : ∃ z, a'.tmps.getD 41 undef = z := ⟨_, rfl⟩
            obtain ⟨z42, h42⟩ : ∃ z, a'.tmps.getD 42 undef = z := ⟨_, rfl⟩
            obtain ⟨z43, h43⟩ : ∃ z, a'.tmps.getD 43 undef = z := ⟨_, rfl⟩
            obtain ⟨z44, h44⟩ : ∃ z, a'.tmps.getD 44 undef = z := ⟨_, rfl⟩
            simp only [List.foldl_cons, List.foldl_nil, h27, h28, h29, h30, h31, h32, h33, h34, h35, h36, h37, h38, h39, h40, h41, h42, h43, h44, e45] at hf
            simp only [List.setIfInBounds_toArray, List.set_cons_zero, List.set_cons_succ] at hf
            clear hF e45 h27 h28 h29 h30 h31 h32 h33 h34 h35 h36 h37 h38 h39 h40 h41 h42 h43 h44
            subst hf
            have HB3 := Lib.hid (HB2.out.trans (hB.mono HB2.out.size))
            clear hB
            go_wp2_with fail
            go_roundw
            case rel => exact ⟨1, by go_num, by omega, Lib.hid ⟨HRI.out, HB3.out⟩⟩
            case measure => simp [intOf]; omega
        · obtain ⟨j, rfl⟩ : ∃ j, k = j + 1 := ⟨k - 1, by omega⟩
          obtain ⟨y, hy, y0⟩ := HP.out j rfl
          have e2 : IntKind.i64.wrap (((j + 1 : Nat) : Int) - 1) = (j : Int) := by rw [IntWalk.i64_in _ (by omega)]; omega
          have e3 : decide ((0 : Int) < ((j + 1 : Nat) : Int)) = true := decide_eq_true (by omega)
          have e2b : IntKind.i64.wrap (j : Int) = (j : Int) := IntWalk.i64_in _ (by omega)
          have HBB : Hid (b < W2.heap.size) := Lib.hid (World.block_lt_of_cell? W2 _ y0)
          have hjc : (j : Int) < (n : Int) := by omega
          have hjc0 : (0 : Int) ≤ (j : Int) := by omega
          have hj2 : (j : Int).toNat = j := by omega
          by_cases hle : x.b ≤ y.b
          · have hR1 : riseB xs n = false := rise_no (k := j + 1 + 1) (by unfold riseB; rw [HGK.out, KRR.out, show j + 1 - 1 = j by omega, hy]; simp; intros; omega) (by omega)
            have hRR := HR.out
            rw [hR1, if_neg (by decide)] at hRR
            subst hRR
            have e4 : decide (x.b ≤ y.b) = true := by simpa using hle
            clear hR1 hy
            refine wp_region_inv (fun i' v' w' => ([(fun v' _ => v' = (.agg #[.int .i64 x.b, .int .u64 x.v, .string x.d])), (fun v' _ => v' = (.bool true)), (fun v' _ => v' = (.bool false)), (fun v' _ => v' = (.bool false)), (fun v' _ => v' = (.int .i64 ((j + 1 : Nat) : Int))), (fun v' _ => v' = (.bool true)), (fun v' _ => v' = (.bool true)), (fun v' _ => v' = (.pointer (some ⟨q, 0, none⟩))), (fun v' _ => v' = (.int .i64 x.b)), (fun v' _ => v' = (.pointer (some ⟨x0, 2, none⟩))), (fun v' _ => v' = (.slice (some ⟨b, off, none⟩) n c)), (fun v' _ => v' = (.int .i64 ((j + 1 : Nat) : Int))), (fun v' _ => v' = (.int .i64 (j : Int))), (fun v' _ => v' = (.pointer (some ⟨b, off + j * 3, none⟩))), (fun v' _ => v' = (.pointer (some ⟨b, off + j * 3, none⟩))), (fun v' _ => v' = (.int .i64 y.b)), (fun v' _ => v' = (.bool true)), (fun v' _ => v' = (.bool true)), (fun v' _ => v' = (.bool true))] : List (Value → World → Prop)).getD i' (fun _ _ => True) v' w') (by kernel_rfl) (by kernel_rfl) (stab_list (by
                repeat (first | exact allStab_nil | refine allStab_cons (stab_eq _) ?_ | refine allStab_cons (stab_slice _ _) ?_))) ?_ ?_
            · refine steps_cons rfl ?_ ?_
              · intro a w hR K hK
                have e4 : a.tmps.getD 4 undef = (.pointer (some ⟨q, 0, none⟩)) := hR.old 4 (by kernel_rfl) rfl
                rw [if_pos (wanted_none rfl)]
                have hc0 := (hR.bel.cell (p := ⟨q, 0, none⟩) HQ.out).trans d0
                have hc1 := (hR.bel.cell (p := ⟨q, 1, none⟩) HQ.out).trans d1
                have hc2 := (hR.bel.cell (p := ⟨q, 2, none⟩) HQ.out).trans d2
                clear hR
                go_simp
                exact hK _ _ (belowSame _) rfl
              refine steps_cons rfl ?_ ?_
              · intro a w hR K hK
                obtain ⟨v27, e27, _, q27⟩ := hR.val 0 27 (by kernel_rfl) (by kernel_rfl)
                obtain rfl : v27 = (.agg #[.int .i64 x.b, .int .u64 x.v, .string x.d]) := q27
                rw [if_pos (wanted_none rfl)]
                have hB := hR.bel
                clear hR
                go_simp
                refine (KRB.out _).mono ?_
                rintro e w' ⟨rfl, hw⟩
                exact hK _ _ (by first | exact belowOfEq hw | exact hw) rfl
              refine steps_cons rfl ?_ ?_
              · intro a w hR K hK
                obtain ⟨v28, e28, _, q28⟩ := hR.val 1 28 (by kernel_rfl) (by kernel_rfl)
                obtain rfl : v28 = (.bool true) := q28
                rw [if_pos (wanted_none rfl)]
                have hB := hR.bel
                clear hR
                go_simp
                exact hK _ _ (belowSame _) rfl
              refine steps_cons rfl ?_ ?_
              · intro a w hR K hK
                obtain ⟨v29, e29, _, q29⟩ := hR.val 2 29 (by kernel_rfl) (by kernel_rfl)
                obtain rfl : v29 = (.bool false) := q29
                rw [if_pos (wanted_none rfl)]
                have hB := hR.bel
                clear hR
                go_simp
                exact hK _ _ (belowSame _) rfl
              refine steps_cons rfl ?_ ?_
              · intro a w hR K hK
                have e3 : a.tmps.getD 3 undef = (.int .i64 ((j + 1 : Nat) : Int)) := hR.old 3 (by kernel_rfl) rfl
                rw [if_pos (hR.wants (o := _) rfl (by kernel_rfl : depB _ 3 = true) (by kernel_rfl : dstAt _ 3 = some 30) (fun _ h => h))]
                have hB := hR.bel
                clear hR
                go_simp
                exact hK _ _ (belowSame _) rfl
              refine steps_cons rfl ?_ ?_
              · intro a w hR K hK
                obtain ⟨v31, e31, _, q31⟩ := hR.val 4 31 (by kernel_rfl) (by kernel_rfl)
                obtain rfl : v31 = (.int .i64 ((j + 1 : Nat) : Int)) := q31
                rw [if_pos (hR.wants (o := _) rfl (by kernel_rfl : depB _ 3 = true) (by kernel_rfl : dstAt _ 3 = some 30) (fun _ h => h))]
                have hB := hR.bel
                clear hR
                go_simp
                exact hK _ _ (belowSame _) rfl
              refine steps_cons rfl ?_ ?_
              · intro a w hR K hK
                obtain ⟨v32, e32, _, q32⟩ := hR.val 5 32 (by kernel_rfl) (by kernel_rfl)
                obtain rfl : v32 = (.bool true) := q32
                rw [if_pos (hR.wants (o := _) rfl (by kernel_rfl : depB _ 3 = true) (by kernel_rfl : dstAt _ 3 = some 30) (fun _ h => h))]
                have hB := hR.bel
                clear hR
                go_simp
                exact hK _ _ (belowSame _) rfl
              refine steps_cons rfl ?_ ?_
              · intro a w hR K hK
                have e4 : a.tmps.getD 4 undef = (.pointer (some ⟨q, 0, none⟩)) := hR.old 4 (by kernel_rfl) rfl
                rw [if_pos (hR.wants (o := _) rfl (by kernel_rfl : depB _ 6 = true) (by kernel_rfl : dstAt _ 6 = some 33) (fun _ h => h))]
                have hB := hR.bel
                clear hR
                go_simp
                exact hK _ _ (belowSame _) rfl
              refine steps_cons rfl ?_ ?_
              · intro a w hR K hK
                obtain ⟨v34, e34, _, q34⟩ := hR.val 7 34 (by kernel_rfl) (by kernel_rfl)
                obtain rfl : v34 = (.pointer (some ⟨q, 0, none⟩)) := q34
                rw [if_pos (hR.wants (o := _) rfl (by kernel_rfl : depB _ 6 = true) (by kernel_rfl : dstAt _ 6 = some 33) (fun _ h => h))]
                have hc := (hR.bel.cell (p := ⟨q, 0, none⟩) HQ.out).trans d0
                clear hR
                go_simp
                exact hK _ _ (belowSame _) rfl
              refine steps_cons rfl ?_ ?_
              · intro a w hR K hK
                have e1 : a.tmps.getD 1 undef = (.pointer (some ⟨x0, 0, none⟩)) := hR.old 1 (by kernel_rfl) rfl
                rw [if_pos (hR.wants (o := _) rfl (by kernel_rfl : depB _ 6 = true) (by kernel_rfl : dstAt _ 6 = some 33) (fun _ h => h))]
                have hB := hR.bel
                clear hR
                go_simp
                exact hK _ _ (belowSame _) rfl
              refine steps_cons rfl ?_ ?_
              · intro a w hR K hK
                obtain ⟨v36, e36, _, q36⟩ := hR.val 9 36 (by kernel_rfl) (by kernel_rfl)
                obtain rfl : v36 = (.pointer (some ⟨x0, 2, none⟩)) := q36
                rw [if_pos (hR.wants (o := _) rfl (by kernel_rfl : depB _ 6 = true) (by kernel_rfl : dstAt _ 6 = some 33) (fun _ h => h))]
                have hc := (hR.bel.cell (p := ⟨x0, 2, none⟩) HX0.out).trans s2
                clear hR
                go_simp
                exact hK _ _ (belowSame _) rfl
              refine steps_cons rfl ?_ ?_
              · intro a w hR K hK
                have e3 : a.tmps.getD 3 undef = (.int .i64 ((j + 1 : Nat) : Int)) := hR.old 3 (by kernel_rfl) rfl
                rw [if_pos (hR.wants (o := _) rfl (by kernel_rfl : depB _ 6 = true) (by kernel_rfl : dstAt _ 6 = some 33) (fun _ h => h))]
                have hB := hR.bel
                clear hR
                go_simp
                exact hK _ _ (belowSame _) rfl
              refine steps_cons rfl ?_ ?_
              · intro a w hR K hK
                obtain ⟨v38, e38, _, q38⟩ := hR.val 11 38 (by kernel_rfl) (by kernel_rfl)
                obtain rfl : v38 = (.int .i64 ((j + 1 : Nat) : Int)) := q38
                rw [if_pos (hR.wants (o := _) rfl (by kernel_rfl : depB _ 6 = true) (by kernel_rfl : dstAt _ 6 = some 33) (fun _ h => h))]
                have hB := hR.bel
                clear hR
                go_simp
                exact hK _ _ (belowSame _) rfl
              refine steps_cons rfl ?_ ?_
              · intro a w hR K hK
                obtain ⟨v37, e37, _, q37⟩ := hR.val 10 37 (by kernel_rfl) (by kernel_rfl)
                obtain rfl : v37 = (.slice (some ⟨b, off, none⟩) n c) := q37
                obtain ⟨v39, e39, _, q39⟩ := hR.val 12 39 (by kernel_rfl) (by kernel_rfl)
                obtain rfl : v39 = (.int .i64 (j : Int)) := q39
                rw [if_pos (hR.wants (o := _) rfl (by kernel_rfl : depB _ 6 = true) (by kernel_rfl : dstAt _ 6 = some 33) (fun _ h => h))]
                have hB := hR.bel
                clear hR
                go_simp
                exact hK _ _ (belowSame _) rfl
              refine steps_cons rfl ?_ ?_
              · intro a w hR K hK
                obtain ⟨v40, e40, _, q40⟩ := hR.val 13 40 (by kernel_rfl) (by kernel_rfl)
                obtain rfl : v40 = (.pointer (some ⟨b, off + j * 3, none⟩)) := q40
                rw [if_pos (hR.wants (o := _) rfl (by kernel_rfl : depB _ 6 = true) (by kernel_rfl : dstAt _ 6 = some 33) (fun _ h => h))]
                have hB := hR.bel
                clear hR
                go_simp
                exact hK _ _ (belowSame _) rfl
              refine steps_cons rfl ?_ ?_
              · intro a w hR K hK
                obtain ⟨v41, e41, _, q41⟩ := hR.val 14 41 (by kernel_rfl) (by kernel_rfl)
                obtain rfl : v41 = (.pointer (some ⟨b, off + j * 3, none⟩)) := q41
                rw [if_pos (hR.wants (o := _) rfl (by kernel_rfl : depB _ 6 = true) (by kernel_rfl : dstAt _ 6 = some 33) (fun _ h => h))]
                have hc := (hR.bel.cell (p := ⟨b, off + j * 3, none⟩) HBB.out).trans y0
                clear hR
                go_simp
                exact hK _ _ (belowSame _) rfl
              refine steps_cons rfl ?_ ?_
              · intro a w hR K hK
                obtain ⟨v35, e35, _, q35⟩ := hR.val 8 35 (by kernel_rfl) (by kernel_rfl)
                obtain rfl : v35 = (.int .i64 x.b) := q35
                obtain ⟨v42, e42, _, q42⟩ := hR.val 15 42 (by kernel_rfl) (by kernel_rfl)
                obtain rfl : v42 = (.int .i64 y.b) := q42
                rw [if_pos (hR.wants (o := _) rfl (by kernel_rfl : depB _ 6 = true) (by kernel_rfl : dstAt _ 6 = some 33) (fun _ h => h))]
                have hB := hR.bel
                clear hR
                go_simp
                exact hK _ _ (belowSame _) rfl
              refine steps_cons rfl ?_ ?_
              · intro a w hR K hK
                obtain ⟨v33, e33, _, q33⟩ := hR.val 6 33 (by kernel_rfl) (by kernel_rfl)
                obtain rfl : v33 = (.bool true) := q33
                obtain ⟨v43, e43, _, q43⟩ := hR.val 16 43 (by kernel_rfl) (by kernel_rfl)
                obtain rfl : v43 = (.bool true) := q43
                rw [if_pos (hR.wants (o := _) rfl (by kernel_rfl : depB _ 3 = true) (by kernel_rfl : dstAt _ 3 = some 30) (fun _ h => h))]
                have hB := hR.bel
                clear hR
                go_simp
                exact hK _ _ (belowSame _) rfl
              refine steps_cons rfl ?_ ?_
              · intro a w hR K hK
                obtain ⟨v30, e30, _, q30⟩ := hR.val 3 30 (by kernel_rfl) (by kernel_rfl)
                obtain rfl : v30 = (.bool false) := q30
                obtain ⟨v44, e44, _, q44⟩ := hR.val 17 44 (by kernel_rfl) (by kernel_rfl)
                obtain rfl : v44 = (.bool true) := q44
                rw [if_pos (wanted_none rfl)]
                have hB := hR.bel
                clear hR
                go_simp
                exact hK _ _ (belowSame _) rfl
              exact steps_nil
            · intro a' w' hF
              obtain ⟨v45, e45, _, q45⟩ := hF.val 18 45 (by decide) (by kernel_rfl)
              obtain rfl : v45 = (.bool true) := q45
              have hB := belowUndrew hF.bel
              have hf := hF.frame
              rw [show dsts _ = [27, 28, 29, 30, 31, 32, 33, 34, 35, 36, 37, 38, 39, 40, 41, 42, 43, 44, 45] from by kernel_rfl] at hf
              obtain ⟨z27, h27⟩ : ∃ z, a'.tmps.getD 27 undef = z := ⟨_, rfl⟩
              obtain ⟨z28, h28⟩ : ∃ z, a'.tmps.getD 28 undef = z := ⟨_, rfl⟩
              obtain ⟨z29, h29⟩ : ∃ z, a'.tmps.getD 29 undef = z := ⟨_, rfl⟩
              obtain ⟨z30, h30⟩ : ∃ z, a'.tmps.getD 30 undef = z := ⟨_, rfl⟩
              obtain ⟨z31, h31⟩ : ∃ z, a'.tmps.getD 31 undef = z := ⟨_, rfl⟩
              obtain ⟨z32, h32⟩ : ∃ z, a'.tmps.getD 32 undef = z := ⟨_, rfl⟩
              obtain ⟨z33, h33⟩ : ∃ z, a'.tmps.getD 33 undef = z := ⟨_, rfl⟩
              obtain ⟨z34, h34⟩ : ∃ z, a'.tmps.getD 34 undef = z := ⟨_, rfl⟩
              obtain ⟨z35, h35⟩ : ∃ z, a'.tmps.getD 35 undef = z := ⟨_, rfl⟩
              obtain ⟨z36, h36⟩ : ∃ z, a'.tmps.getD 36 undef = z := ⟨_, rfl⟩
              obtain ⟨z37, h37⟩ : ∃ z, a'.tmps.getD 37 undef = z := ⟨_, rfl⟩
              obtain ⟨z38, h38⟩ : ∃ z, a'.tmps.getD 38 undef = z := ⟨_, rfl⟩
              obtain ⟨z39, h39⟩ : ∃ z, a'.tmps.getD 39 undef = z := ⟨_, rfl⟩
              obtain ⟨z40, h40⟩ : ∃ z, a'.tmps.getD 40 undef = z := ⟨_, rfl⟩
              obtain ⟨z41, h41⟩ : ∃ z, a'.tmps.getD 41 undef = z := ⟨_, rfl⟩
              obtain ⟨z42, h42⟩ : ∃ z, a'.tmps.getD 42 undef = z := ⟨_, rfl⟩
              obtain ⟨z43, h43⟩ : ∃ z, a'.tmps.getD 43 undef = z := ⟨_, rfl⟩
              obtain ⟨z44, h44⟩ : ∃ z, a'.tmps.getD 44 undef = z := ⟨_, rfl⟩
              simp only [List.foldl_cons, List.foldl_nil, h27, h28, h29, h30, h31, h32, h33, h34, h35, h36, h37, h38, h39, h40, h41, h42, h43, h44, e45] at hf
              simp only [List.setIfInBounds_toArray, List.set_cons_zero, List.set_cons_succ] at hf
              clear hF e45 h27 h28 h29 h30 h31 h32 h33 h34 h35 h36 h37 h38 h39 h40 h41 h42 h43 h44
              subst hf
              have HB3 := Lib.hid (HB2.out.trans (hB.mono HB2.out.size))
              clear hB
              go_wp2_with fail
              go_ret
              exact ⟨rfl, HBL.out.trans (HB3.out.mono HBL.out.size)⟩
          · have e4 : decide (x.b ≤ y.b) = false := by simpa using hle
            have hri : riseB xs (j + 1 + 1) = true := by
              unfold riseB
              rw [HK.out.1, HGK.out, KRR.out, show j + 1 - 1 = j by omega, hy]
              simp; omega
            have HRI := Lib.hid hri
            clear hri hy
            refine wp_region_inv (fun i' v' w' => ([(fun v' _ => v' = (.agg #[.int .i64 x.b, .int .u64 x.v, .string x.d])), (fun v' _ => v' = (.bool true)), (fun v' _ => v' = (.bool false)), (fun v' _ => v' = (.bool false)), (fun v' _ => v' = (.int .i64 ((j + 1 : Nat) : Int))), (fun v' _ => v' = (.bool true)), (fun v' _ => v' = (.bool true)), (fun v' _ => v' = (.pointer (some ⟨q, 0, none⟩))), (fun v' _ => v' = (.int .i64 x.b)), (fun v' _ => v' = (.pointer (some ⟨x0, 2, none⟩))), (fun v' _ => v' = (.slice (some ⟨b, off, none⟩) n c)), (fun v' _ => v' = (.int .i64 ((j + 1 : Nat) : Int))), (fun v' _ => v' = (.int .i64 (j : Int))), (fun v' _ => v' = (.pointer (some ⟨b, off + j * 3, none⟩))), (fun v' _ => v' = (.pointer (some ⟨b, off + j * 3, none⟩))), (fun v' _ => v' = (.int .i64 y.b)), (fun v' _ => v' = (.bool false)), (fun v' _ => v' = (.bool false)), (fun v' _ => v' = (.bool false))] : List (Value → World → Prop)).getD i' (fun _ _ => True) v' w') (by kernel_rfl) (by kernel_rfl) (stab_list (by
                repeat (first | exact allStab_nil | refine allStab_cons (stab_eq _) ?_ | refine allStab_cons (stab_slice _ _) ?_))) ?_ ?_
            · refine steps_cons rfl ?_ ?_
              · intro a w hR K hK
                have e4 : a.tmps.getD 4 undef = (.pointer (some ⟨q, 0, none⟩)) := hR.old 4 (by kernel_rfl) rfl
                rw [if_pos (wanted_none rfl)]
                have hc0 := (hR.bel.cell (p := ⟨q, 0, none⟩) HQ.out).trans d0
                have hc1 := (hR.bel.cell (p := ⟨q, 1, none⟩) HQ.out).trans d1
                have hc2 := (hR.bel.cell (p := ⟨q, 2, none⟩) HQ.out).trans d2
                clear hR
                go_simp
                exact hK _ _ (belowSame _) rfl
              refine steps_cons rfl ?_ ?_
              · intro a w hR K hK
                obtain ⟨v27, e27, _, q27⟩ := hR.val 0 27 (by kernel_rfl) (by kernel_rfl)
                obtain rfl : v27 = (.agg #[.int .i64 x.b, .int .u64 x.v, .string x.d]) := q27
                rw [if_pos (wanted_none rfl)]
                have hB := hR.bel
                clear hR
                go_simp
                refine (KRB.out _).mono ?_
                rintro e w' ⟨rfl, hw⟩
                exact hK _ _ (by first | exact belowOfEq hw | exact hw) rfl
              refine steps_cons rfl ?_ ?_
              · intro a w hR K hK
                obtain ⟨v28, e28, _, q28⟩ := hR.val 1 28 (by kernel_rfl) (by kernel_rfl)
                obtain rfl : v28 = (.bool true) := q28
                rw [if_pos (wanted_none rfl)]
                have hB := hR.bel
                clear hR
                go_simp
                exact hK _ _ (belowSame _) rfl
              refine steps_cons rfl ?_ ?_
              · intro a w hR K hK
                obtain ⟨v29, e29, _, q29⟩ := hR.val 2 29 (by kernel_rfl) (by kernel_rfl)
                obtain rfl : v29 = (.bool false) := q29
                rw [if_pos (wanted_none rfl)]
                have hB := hR.bel
                clear hR
                go_simp
                exact hK _ _ (belowSame _) rfl
              refine steps_cons rfl ?_ ?_
              · intro a w hR K hK
                have e3 : a.tmps.getD 3 undef = (.int .i64 ((j + 1 : Nat) : Int)) := hR.old 3 (by kernel_rfl) rfl
                rw [if_pos (hR.wants (o := _) rfl (by kernel_rfl : depB _ 3 = true) (by kernel_rfl : dstAt _ 3 = some 30) (fun _ h => h))]
                have hB := hR.bel
                clear hR
                go_simp
                exact hK _ _ (belowSame _) rfl
              refine steps_cons rfl ?_ ?_
              · intro a w hR K hK
                obtain ⟨v31, e31, _, q31⟩ := hR.val 4 31 (by kernel_rfl) (by kernel_rfl)
                obtain rfl : v31 = (.int .i64 ((j + 1 : Nat) : Int)) := q31
                rw [if_pos (hR.wants (o := _) rfl (by kernel_rfl : depB _ 3 = true) (by kernel_rfl : dstAt _ 3 = some 30) (fun _ h => h))]
                have hB := hR.bel
                clear hR
                go_simp
                exact hK _ _ (belowSame _) rfl
              refine steps_cons rfl ?_ ?_
              · intro a w hR K hK
                obtain ⟨v32, e32, _, q32⟩ := hR.val 5 32 (by kernel_rfl) (by kernel_rfl)
                obtain rfl : v32 = (.bool true) := q32
                rw [if_pos (hR.wants (o := _) rfl (by kernel_rfl : depB _ 3 = true) (by kernel_rfl : dstAt _ 3 = some 30) (fun _ h => h))]
                have hB := hR.bel
                clear hR
                go_simp
                exact hK _ _ (belowSame _) rfl
              refine steps_cons rfl ?_ ?_
              · intro a w hR K hK
                have e4 : a.tmps.getD 4 undef = (.pointer (some ⟨q, 0, none⟩)) := hR.old 4 (by kernel_rfl) rfl
                rw [if_pos (hR.wants (o := _) rfl (by kernel_rfl : depB _ 6 = true) (by kernel_rfl : dstAt _ 6 = some 33) (fun _ h => h))]
                have hB := hR.bel
                clear hR
                go_simp
                exact hK _ _ (belowSame _) rfl
              refine steps_cons rfl ?_ ?_
              · intro a w hR K hK
                obtain ⟨v34, e34, _, q34⟩ := hR.val 7 34 (by kernel_rfl) (by kernel_rfl)
                obtain rfl : v34 = (.pointer (some ⟨q, 0, none⟩)) := q34
                rw [if_pos (hR.wants (o := _) rfl (by kernel_rfl : depB _ 6 = true) (by kernel_rfl : dstAt _ 6 = some 33) (fun _ h => h))]
                have hc := (hR.bel.cell (p := ⟨q, 0, none⟩) HQ.out).trans d0
                clear hR
                go_simp
                exact hK _ _ (belowSame _) rfl
              refine steps_cons rfl ?_ ?_
              · intro a w hR K hK
                have e1 : a.tmps.getD 1 undef = (.pointer (some ⟨x0, 0, none⟩)) := hR.old 1 (by kernel_rfl) rfl
                rw [if_pos (hR.wants (o := _) rfl (by kernel_rfl : depB _ 6 = true) (by kernel_rfl : dstAt _ 6 = some 33) (fun _ h => h))]
                have hB := hR.bel
                clear hR
                go_simp
                exact hK _ _ (belowSame _) rfl
              refine steps_cons rfl ?_ ?_
              · intro a w hR K hK
                obtain ⟨v36, e36, _, q36⟩ := hR.val 9 36 (by kernel_rfl) (by kernel_rfl)
                obtain rfl : v36 = (.pointer (some ⟨x0, 2, none⟩)) := q36
                rw [if_pos (hR.wants (o := _) rfl (by kernel_rfl : depB _ 6 = true) (by kernel_rfl : dstAt _ 6 = some 33) (fun _ h => h))]
                have hc := (hR.bel.cell (p := ⟨x0, 2, none⟩) HX0.out).trans s2
                clear hR
                go_simp
                exact hK _ _ (belowSame _) rfl
              refine steps_cons rfl ?_ ?_
              · intro a w hR K hK
                have e3 : a.tmps.getD 3 undef = (.int .i64 ((j + 1 : Nat) : Int)) := hR.old 3 (by kernel_rfl) rfl
                rw [if_pos (hR.wants (o := _) rfl (by kernel_rfl : depB _ 6 = true) (by kernel_rfl : dstAt _ 6 = some 33) (fun _ h => h))]
                have hB := hR.bel
                clear hR
                go_simp
                exact hK _ _ (belowSame _) rfl
              refine steps_cons rfl ?_ ?_
              · intro a w hR K hK
                obtain ⟨v38, e38, _, q38⟩ := hR.val 11 38 (by kernel_rfl) (by kernel_rfl)
                obtain rfl : v38 = (.int .i64 ((j + 1 : Nat) : Int)) := q38
                rw [if_pos (hR.wants (o := _) rfl (by kernel_rfl : depB _ 6 = true) (by kernel_rfl : dstAt _ 6 = some 33) (fun _ h => h))]
                have hB := hR.bel
                clear hR
                go_simp
                exact hK _ _ (belowSame _) rfl
              refine steps_cons rfl ?_ ?_
              · intro a w hR K hK
                obtain ⟨v37, e37, _, q37⟩ := hR.val 10 37 (by kernel_rfl) (by kernel_rfl)
                obtain rfl : v37 = (.slice (some ⟨b, off, none⟩) n c) := q37
                obtain ⟨v39, e39, _, q39⟩ := hR.val 12 39 (by kernel_rfl) (by kernel_rfl)
                obtain rfl : v39 = (.int .i64 (j : Int)) := q39
                rw [if_pos (hR.wants (o := _) rfl (by kernel_rfl : depB _ 6 = true) (by kernel_rfl : dstAt _ 6 = some 33) (fun _ h => h))]
                have hB := hR.bel
                clear hR
                go_simp
                exact hK _ _ (belowSame _) rfl
              refine steps_cons rfl ?_ ?_
              · intro a w hR K hK
                obtain ⟨v40, e40, _, q40⟩ := hR.val 13 40 (by kernel_rfl) (by kernel_rfl)
                obtain rfl : v40 = (.pointer (some ⟨b, off + j * 3, none⟩)) := q40
                rw [if_pos (hR.wants (o := _) rfl (by kernel_rfl : depB _ 6 = true) (by kernel_rfl : dstAt _ 6 = some 33) (fun _ h => h))]
                have hB := hR.bel
                clear hR
                go_simp
                exact hK _ _ (belowSame _) rfl
              refine steps_cons rfl ?_ ?_
              · intro a w hR K hK
                obtain ⟨v41, e41, _, q41⟩ := hR.val 14 41 (by kernel_rfl) (by kernel_rfl)
                obtain rfl : v41 = (.pointer (some ⟨b, off + j * 3, none⟩)) := q41
                rw [if_pos (hR.wants (o := _) rfl (by kernel_rfl : depB _ 6 = true) (by kernel_rfl : dstAt _ 6 = some 33) (fun _ h => h))]
                have hc := (hR.bel.cell (p := ⟨b, off + j * 3, none⟩) HBB.out).trans y0
                clear hR
                go_simp
                exact hK _ _ (belowSame _) rfl
              refine steps_cons rfl ?_ ?_
              · intro a w hR K hK
                obtain ⟨v35, e35, _, q35⟩ := hR.val 8 35 (by kernel_rfl) (by kernel_rfl)
                obtain rfl : v35 = (.int .i64 x.b) := q35
                obtain ⟨v42, e42, _, q42⟩ := hR.val 15 42 (by kernel_rfl) (by kernel_rfl)
                obtain rfl : v42 = (.int .i64 y.b) := q42
                rw [if_pos (hR.wants (o := _) rfl (by kernel_rfl : depB _ 6 = true) (by kernel_rfl : dstAt _ 6 = some 33) (fun _ h => h))]
                have hB := hR.bel
                clear hR
                go_simp
                exact hK _ _ (belowSame _) rfl
              refine steps_cons rfl ?_ ?_
              · intro a w hR K hK
                obtain ⟨v33, e33, _, q33⟩ := hR.val 6 33 (by kernel_rfl) (by kernel_rfl)
                obtain rfl : v33 = (.bool true) := q33
                obtain ⟨v43, e43, _, q43⟩ := hR.val 16 43 (by kernel_rfl) (by kernel_rfl)
                obtain rfl : v43 = (.bool false) := q43
                rw [if_pos (hR.wants (o := _) rfl (by kernel_rfl : depB _ 3 = true) (by kernel_rfl : dstAt _ 3 = some 30) (fun _ h => h))]
                have hB := hR.bel
                clear hR
                go_simp
                exact hK _ _ (belowSame _) rfl
              refine steps_cons rfl ?_ ?_
              · intro a w hR K hK
                obtain ⟨v30, e30, _, q30⟩ := hR.val 3 30 (by kernel_rfl) (by kernel_rfl)
                obtain rfl : v30 = (.bool false) := q30
                obtain ⟨v44, e44, _, q44⟩ := hR.val 17 44 (by kernel_rfl) (by kernel_rfl)
                obtain rfl : v44 = (.bool false) := q44
                rw [if_pos (wanted_none rfl)]
                have hB := hR.bel
                clear hR
                go_simp
                exact hK _ _ (belowSame _) rfl
              exact steps_nil
            · intro a' w' hF
              obtain ⟨v45, e45, _, q45⟩ := hF.val 18 45 (by decide) (by kernel_rfl)
              obtain rfl : v45 = (.bool false) := q45
              have hB := belowUndrew hF.bel
              have hf := hF.frame
              rw [show dsts _ = [27, 28, 29, 30, 31, 32, 33, 34, 35, 36, 37, 38, 39, 40, 41, 42, 43, 44, 45] from by kernel_rfl] at hf
              obtain ⟨z27, h27⟩ : ∃ z, a'.tmps.getD 27 undef = z := ⟨_, rfl⟩
              obtain ⟨z28, h28⟩ : ∃ z, a'.tmps.getD 28 undef = z := ⟨_, rfl⟩
              obtain ⟨z29, h29⟩ : ∃ z, a'.tmps.getD 29 undef = z := ⟨_, rfl⟩
              obtain ⟨z30, h30⟩ : ∃ z, a'.tmps.getD 30 undef = z := ⟨_, rfl⟩
              obtain ⟨z31, h31⟩ : ∃ z, a'.tmps.getD 31 undef = z := ⟨_, rfl⟩
              obtain ⟨z32, h32⟩ : ∃ z, a'.tmps.getD 32 undef = z := ⟨_, rfl⟩
              obtain ⟨z33, h33⟩ : ∃ z, a'.tmps.getD 33 undef = z := ⟨_, rfl⟩
              obtain ⟨z34, h34⟩ : ∃ z, a'.tmps.getD 34 undef = z := ⟨_, rfl⟩
              obtain ⟨z35, h35⟩ : ∃ z, a'.tmps.getD 35 undef = z := ⟨_, rfl⟩
              obtain ⟨z36, h36⟩ : ∃ z, a'.tmps.getD 36 undef = z := ⟨_, rfl⟩
              obtain ⟨z37, h37⟩ : ∃ z, a'.tmps.getD 37 undef = z := ⟨_, rfl⟩
              obtain ⟨z38, h38⟩ : ∃ z, a'.tmps.getD 38 undef = z := ⟨_, rfl⟩
              obtain ⟨z39, h39⟩ : ∃ z, a'.tmps.getD 39 undef = z := ⟨_, rfl⟩
              obtain ⟨z40, h40⟩ : ∃ z, a'.tmps.getD 40 undef = z := ⟨_, rfl⟩
              obtain ⟨z41, h41⟩ : ∃ z, a'.tmps.getD 41 undef = z := ⟨_, rfl⟩
              obtain ⟨z42, h42⟩ : ∃ z, a'.tmps.getD 42 undef = z := ⟨_, rfl⟩
              obtain ⟨z43, h43⟩ : ∃ z, a'.tmps.getD 43 undef = z := ⟨_, rfl⟩
              obtain ⟨z44, h44⟩ : ∃ z, a'.tmps.getD 44 undef = z := ⟨_, rfl⟩
              simp only [List.foldl_cons, List.foldl_nil, h27, h28, h29, h30, h31, h32, h33, h34, h35, h36, h37, h38, h39, h40, h41, h42, h43, h44, e45] at hf
              simp only [List.setIfInBounds_toArray, List.set_cons_zero, List.set_cons_succ] at hf
              clear hF e45 h27 h28 h29 h30 h31 h32 h33 h34 h35 h36 h37 h38 h39 h40 h41 h42 h43 h44
              subst hf
              have HB3 := Lib.hid (HB2.out.trans (hB.mono HB2.out.size))
              clear hB
              go_wp2_with fail
              go_roundw
              case rel => exact ⟨j + 1 + 1, by go_num, by omega, Lib.hid ⟨HRI.out, HB3.out⟩⟩
              case measure => simp [intOf]; omega
    · have hkn : k = n := by omega
      have hRR := HR.out
      have s2 : wr.cell? ⟨x0, 2, none⟩ = some (.slice A n c) := (HK.out.2.cell (p := ⟨x0, 2, none⟩) HLT.out).trans C2.out
      rw [← hkn, HK.out.1, if_pos rfl, hkn] at hRR
      by_cases h60 : 60 < n
      · rw [if_pos h60] at hRR
        subst hRR
        have e6 : decide ((60 : Int) < (n : Int)) = true := by simp; omega
        go_wp2_with fail
        go_ret
        exact ⟨rfl, HBL.out.trans (HK.out.2.mono HBL.out.size)⟩
      · rw [if_neg h60] at hRR
        subst hRR
        have e6 : decide ((60 : Int) < (n : Int)) = false := by simp; omega
        go_wp2_with fail
        go_ret
        exact ⟨rfl, HBL.out.trans (HK.out.2.mono HBL.out.size)⟩
end Go.Proofs.Ytmfbggdoejcpiaa.RC
