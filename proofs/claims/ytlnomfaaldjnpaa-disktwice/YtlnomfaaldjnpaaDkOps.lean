/- What a law is told of a row of steps ([]commonslaw8.Op) that came in; Room of two sizes; Light. No condition. -/
import Derived.Test.YtlnomfaaldjnpaaDkNil
import Derived.Test.YtlnomfaaldjnpaaOpen
import Derived.Test.YtlnomfaaldjnpaaRegInv2
import Derived.Test.YtlnomfaaldjnpaaRegTail
namespace Go.Proofs.Ytlnomfaaldjnpaa.DK
open Go.RowKit Go.Proofs.Ytlnomfaaldjnpaa.MI Go.WideShapes Go.ChangeShapes Go.Deep
set_option linter.unusedVariables false
set_option linter.unusedSimpArgs false

structure OpR where
  kind : Int
  node : Int
  at_ : Int
  n : Int
  epoch : Int
  data : ByteArray
  ka : Option Addr
  kl : Nat
  kc : Nat
  own : Bool
abbrev op0 : OpR := ⟨0, 0, 0, 0, 0, ⟨#[]⟩, none, 0, 0, false⟩
def oval (o : OpR) : List Value := [.int .i64 o.kind, .int .i64 o.node, .int .i64 o.at_, .int .i64 o.n, .int .u64 o.epoch, .string o.data, .slice o.ka o.kl o.kc, .bool o.own]
structure OpOk (o : OpR) : Prop where
  kind : (Lit.int .i64 o.kind).wf = true
  node : (Lit.int .i64 o.node).wf = true
  at_ : (Lit.int .i64 o.at_).wf = true
  epoch : (Lit.int .u64 o.epoch).wf = true
  data : o.data.size ≤ maxLen
  kl : o.kl ≤ maxLen
def OpsIs (w : World) (a : Option Addr) (len cap : Nat) (xs : List OpR) : Prop :=
  len ≤ cap ∧ cap ≤ maxLen ∧ xs.length = len ∧ (∀ o ∈ xs, OpOk o) ∧
  (0 < len → ∃ b off, a = some ⟨b, off, none⟩ ∧ b < w.heap.size ∧ ∀ i o, xs[i]? = some o → ∀ j u, (oval o)[j]? = some u → w.cell? ⟨b, off + (i * 8 + j), none⟩ = some u)
theorem list_any {α : Type} (d : α) {Q : Nat → α → Prop} (n : Nat) (each : ∀ i, i < n → ∃ z, Q i z) : ∃ zs : List α, zs.length = n ∧ ∀ i z, zs[i]? = some z → Q i z := by
  induction n with
  | zero => exact ⟨[], rfl, fun i z h => by simp at h⟩
  | succ n ih =>
    obtain ⟨zs, hz, hq⟩ := ih (fun i hi => each i (by omega))
    obtain ⟨z, hz1⟩ := each n (by omega)
    refine ⟨zs ++ [z], by simp [hz], fun i y hy => ?_⟩
    by_cases hil : i < n
    · rw [List.getElem?_append_left (by omega)] at hy; exact hq i y hy
    · rw [List.getElem?_append_right (by omega)] at hy
      have hi : i - zs.length = 0 := by
        rcases Nat.eq_zero_or_pos (i - zs.length) with h | h
        · exact h
        · rw [List.getElem?_eq_none (by simp; omega)] at hy; cases hy
      rw [hi] at hy
      obtain rfl : i = n := by omega
      simp at hy
      subst hy
      exact hz1
section
variable {H : Type} {enc : TypeId × Value → H} {w : World}
theorem under_op : ∃ fs : Array Field, Try.prog.underlying 47 = some (.struct fs) ∧ fs.map (fun f : Field => (f.type, f.offset)) = #[(3, 0), (3, 1), (3, 2), (3, 3), (22, 4), (9, 5), (34, 6), (4, 7)] := ⟨_, Try.underlying47, by kernel_rfl⟩
theorem ops_in {base : Nat} {v : Value} {d : DataW H} {p : List MemPlace} (hok : Value.okWide Try.prog w .any base 43 v) (h : DataW.Trod enc Try.prog w 0 (fun _ => true) true 43 v d p) :
    ∃ a len cap xs, v = .slice a len cap ∧ OpsIs w a len cap xs := by
  obtain ⟨a0, l0, c0, rfl⟩ := okWide_slice Try.underlying43 hok
  obtain ⟨fuel, hf⟩ := h
  rcases open_slice Try.underlying43 hf with ⟨hcs, _⟩ | ⟨a, len, cap, m, nn, D, Pl, hcs, _, hl, hm, hmm, _, hi⟩
  · simp [Value.cells] at hcs
    obtain ⟨rfl, rfl, rfl⟩ := hcs
    exact ⟨none, 0, 0, [], rfl, by omega, by unfold maxLen; omega, rfl, fun o ho => by simp at ho, fun h => by omega⟩
  · simp [Value.cells] at hcs
    obtain ⟨rfl, rfl, rfl⟩ := hcs
    obtain ⟨fs, hfs, hff⟩ := under_op
    have hce : Try.prog.cellsOf 47 = 8 := by kernel_rfl
    have c1 : Try.prog.cellsOf 3 = 1 := by kernel_rfl
    have c2 : Try.prog.cellsOf 22 = 1 := by kernel_rfl
    have c3 : Try.prog.cellsOf 9 = 1 := by kernel_rfl
    have c4 : Try.prog.cellsOf 34 = 1 := by kernel_rfl
    have c5 : Try.prog.cellsOf 4 = 1 := by kernel_rfl
    have each : ∀ i, i < l0 → ∃ o : OpR, OpOk o ∧ ∀ j u, (oval o)[j]? = some u → w.cell? (a.add (i * 8 + j)) = some u := by
      intro i hil
      obtain ⟨cs', h1, h2⟩ := hi i (by rw [hmm]; simp; omega)
      rw [hce] at h1
      obtain ⟨_, hcl, hat⟩ := World.cells?_some h1
      obtain ⟨xs, m', _, _, hlen, hxl, hfld⟩ := DataW.trod_struct hfs h2
      have hfa : ∀ (j : Nat) (t : TypeId) (o : Nat), (fs.map (fun f : Field => (f.type, f.offset)))[j]? = some (t, o) → ∃ f : Field, fs[j]? = some f ∧ f.type = t ∧ f.offset = o := by
        intro j t o hj
        rw [Array.getElem?_map] at hj
        cases hfj : fs[j]? with
        | none => rw [hfj] at hj; cases hj
        | some f => rw [hfj] at hj; injection hj with hj; injection hj with h1 h2; exact ⟨f, rfl, h1, h2⟩
      have get : ∀ (j : Nat) (t : TypeId), (fs.map (fun f : Field => (f.type, f.offset)))[j]? = some (t, j) → Try.prog.cellsOf t = 1 → j < fs.size → ∃ y, DataW.trod enc Try.prog w 0 (fun _ => true) true m' t ((cs'.drop j).take 1) = some y := by
        intro j t hj hc hjs
        obtain ⟨f, hf1, hf2, hf3⟩ := hfa j t j hj
        have := hfld j f hf1
        rw [hf2, hf3, hc] at this
        rw [this]
        exact ⟨_, List.getElem?_eq_getElem (by rw [hxl]; exact hjs)⟩
      have hfsz : fs.size = 8 := by have := congrArg Array.size hff; simpa using this
      have cell : ∀ j v, (cs'.drop j).take 1 = [v] → cs'[j]? = some v := by
        intro j v hv
        have : ((cs'.drop j).take 1)[0]? = some v := by rw [hv]; rfl
        rw [List.getElem?_take, if_pos (by omega), List.getElem?_drop] at this
        simpa using this
      obtain ⟨y0, hy0⟩ := get 0 _ (by rw [hff]; rfl) c1 (by omega)
      obtain ⟨y1, hy1⟩ := get 1 _ (by rw [hff]; rfl) c1 (by omega)
      obtain ⟨y2, hy2⟩ := get 2 _ (by rw [hff]; rfl) c1 (by omega)
      obtain ⟨y3, hy3⟩ := get 3 _ (by rw [hff]; rfl) c1 (by omega)
      obtain ⟨y4, hy4⟩ := get 4 _ (by rw [hff]; rfl) c2 (by omega)
      obtain ⟨y5, hy5⟩ := get 5 _ (by rw [hff]; rfl) c3 (by omega)
      obtain ⟨y6, hy6⟩ := get 6 _ (by rw [hff]; rfl) c4 (by omega)
      obtain ⟨y7, hy7⟩ := get 7 _ (by rw [hff]; rfl) c5 (by omega)
      obtain ⟨z0, e0, _, w0⟩ := DataW.trod_int Try.underlying3 hy0
      obtain ⟨z1, e1, _, w1⟩ := DataW.trod_int Try.underlying3 hy1
      obtain ⟨z2, e2, _, w2⟩ := DataW.trod_int Try.underlying3 hy2
      obtain ⟨z3, e3, _, w3⟩ := DataW.trod_int Try.underlying3 hy3
      obtain ⟨z4, e4, _, w4⟩ := DataW.trod_int Try.underlying22 hy4
      obtain ⟨z5, e5, _, w5⟩ := DataW.trod_string Try.underlying9 hy5
      obtain ⟨z7, e7, _⟩ := DataW.trod_bool Try.underlying4 hy7
      obtain ⟨ka, kl, kc, e6, hkl⟩ : ∃ ka kl kc, (cs'.drop 6).take 1 = [.slice ka kl kc] ∧ kl ≤ maxLen := by
        rcases DataW.trod_slice Try.underlying34 hy6 with ⟨e, _⟩ | ⟨a', l', c', _, _, _, _, e, _, _, hlc, hcm, _⟩
        · exact ⟨none, 0, 0, e, by unfold maxLen; omega⟩
        · exact ⟨some a', l', c', e, by omega⟩
      refine ⟨⟨z0, z1, z2, z3, z4, z5, ka, kl, kc, z7⟩, ⟨w0, w1, w2, w4, w5, hkl⟩, fun j u hu => ?_⟩
      have hj8 : j < 8 := by
        rcases Nat.lt_or_ge j 8 with h | h
        · exact h
        · rw [List.getElem?_eq_none (by simpa [oval] using h)] at hu; cases hu
      have hcj : cs'[j]? = some u := by
        rcases (by omega : j = 0 ∨ j = 1 ∨ j = 2 ∨ j = 3 ∨ j = 4 ∨ j = 5 ∨ j = 6 ∨ j = 7) with rfl | rfl | rfl | rfl | rfl | rfl | rfl | rfl
        · rw [cell 0 _ e0, ← hu]; rfl
        · rw [cell 1 _ e1, ← hu]; rfl
        · rw [cell 2 _ e2, ← hu]; rfl
        · rw [cell 3 _ e3, ← hu]; rfl
        · rw [cell 4 _ e4, ← hu]; rfl
        · rw [cell 5 _ e5, ← hu]; rfl
        · rw [cell 6 _ e6, ← hu]; rfl
        · rw [cell 7 _ e7, ← hu]; rfl
      have h6 := hat j hj8
      rw [add_add_] at h6
      rw [h6]
      exact hcj
    obtain ⟨xs, hxl, hxs⟩ := list_any op0 l0 each
    refine ⟨_, _, _, xs, rfl, hl, hm, hxl, fun o ho => ?_, fun h0 => ?_⟩
    · obtain ⟨i, hi2, rfl⟩ := List.mem_iff_getElem.1 ho
      exact (hxs i _ (List.getElem?_eq_getElem hi2)).1
    · obtain ⟨o, ho⟩ : ∃ o, xs[0]? = some o := ⟨_, List.getElem?_eq_getElem (by omega)⟩
      have h00 := (hxs 0 o ho).2 0 _ (by unfold oval; rfl)
      obtain ⟨b, off, rfl, _⟩ := ints_at (a := a) (k := .i64) (zs := [o.kind]) (w := w) (fun i hi => by
        obtain rfl : i = 0 := by simpa using hi
        exact h00) (by simp)
      refine ⟨b, off, rfl, World.block_lt_of_cell? w _ h00, fun i o ho j u hu => ?_⟩
      rw [← Go.WideShapes.add_plain]
      exact (hxs i o ho).2 j u hu
end

section
variable {w W : World} {a : Option Addr} {len cap : Nat} {xs : List OpR}
theorem OpsIs.old (h : OpsIs w a len cap xs) (hb : Below w.heap.size w W) : OpsIs W a len cap xs := by
  obtain ⟨h1, h2, h3, h4, h5⟩ := h
  refine ⟨h1, h2, h3, h4, fun h0 => ?_⟩
  obtain ⟨b, off, e, hlt, hc⟩ := h5 h0
  refine ⟨b, off, e, Nat.lt_of_lt_of_le hlt hb.size, fun i o ho j u hu => ?_⟩
  rw [hb.cell hlt]
  exact hc i o ho j u hu
theorem OpsIs.at_ (h : OpsIs w a len cap xs) {k : Nat} (hk : k < len) : ∃ b off o, a = some ⟨b, off, none⟩ ∧ xs[k]? = some o ∧ OpOk o ∧ b < w.heap.size ∧ (k : Int) < (cap : Int) ∧
    w.cell? ⟨b, off + k * 8, none⟩ = some (.int .i64 o.kind) ∧ w.cell? ⟨b, off + k * 8 + 1, none⟩ = some (.int .i64 o.node) ∧ w.cell? ⟨b, off + k * 8 + 2, none⟩ = some (.int .i64 o.at_) ∧ w.cell? ⟨b, off + k * 8 + 3, none⟩ = some (.int .i64 o.n) ∧
    w.cell? ⟨b, off + k * 8 + 4, none⟩ = some (.int .u64 o.epoch) ∧ w.cell? ⟨b, off + k * 8 + 5, none⟩ = some (.string o.data) ∧ w.cell? ⟨b, off + k * 8 + 6, none⟩ = some (.slice o.ka o.kl o.kc) ∧ w.cell? ⟨b, off + k * 8 + 7, none⟩ = some (.bool o.own) := by
  obtain ⟨h1, h2, h3, h4, h5⟩ := h
  obtain ⟨b, off, e, hlt, hc⟩ := h5 (by omega)
  obtain ⟨o, ho⟩ : ∃ o, xs[k]? = some o := ⟨_, List.getElem?_eq_getElem (by omega)⟩
  have g := hc k o ho
  refine ⟨b, off, o, e, ho, h4 o (List.mem_of_getElem? ho), hlt, by omega, g 0 _ rfl, ?_, ?_, ?_, ?_, ?_, ?_, ?_⟩
  · have := g 1 _ rfl; rwa [← Nat.add_assoc] at this
  · have := g 2 _ rfl; rwa [← Nat.add_assoc] at this
  · have := g 3 _ rfl; rwa [← Nat.add_assoc] at this
  · have := g 4 _ rfl; rwa [← Nat.add_assoc] at this
  · have := g 5 _ rfl; rwa [← Nat.add_assoc] at this
  · have := g 6 _ rfl; rwa [← Nat.add_assoc] at this
  · have := g 7 _ rfl; rwa [← Nat.add_assoc] at this
end

/-! ### Room of two sizes, Light -/
def roomF (left sz : Int) : Int := if left < 0 ∨ left < sz then -1 else left - sz
theorem room_two (left a b : Int) {W : World} {g : Nat} (h : Blk W g 3 #[.int .i64 a, .int .i64 b]) (ha : 0 ≤ a ∧ a ≤ 9223372036854775807) (hb : 0 ≤ b ∧ b ≤ 9223372036854775807) (h2 : -1 ≤ left) (h3 : left ≤ 1000000000) :
    Calls Try.prog 45 #[.int .i64 left, .slice (some ⟨g, 0, none⟩) 2 2] W fun e w' => e = .returned (.int .i64 (roomF (roomF left a) b)) ∧ W = w' := by
  have c0 : W.cell? ⟨g, 0, none⟩ = some (.int .i64 a) := h.cell 0
  have c1 : W.cell? ⟨g, 1, none⟩ = some (.int .i64 b) := h.cell 1
  clear h
  have hm1 : ∀ b, roomF (-1) b = -1 := fun b => by unfold roomF; rw [if_pos (.inl (by decide))]
  by_cases a1 : left < 0
  · have r : roomF (roomF left a) b = -1 := by rw [show roomF left a = -1 by unfold roomF; rw [if_pos (.inl a1)], hm1]
    rw [r]
    clear r hm1
    go_enter Try.func45, Try.ntmps45
    go_wp2
    go_loop [0, 5] (fun x i => x = .int .i64 left ∧ i = .int .i64 0) (fun _ i => 2 - (intOf i).toNat)
    case atStart => exact ⟨rfl, rfl⟩
    case round =>
      obtain ⟨rfl, rfl⟩ := hrel
      go_wp2
      go_ret
      exact ⟨rfl, rfl⟩
  by_cases a2 : left < a
  · have r : roomF (roomF left a) b = -1 := by rw [show roomF left a = -1 by unfold roomF; rw [if_pos (.inr a2)], hm1]
    rw [r]
    clear r hm1
    go_enter Try.func45, Try.ntmps45
    go_wp2
    go_loop [0, 5] (fun x i => x = .int .i64 left ∧ i = .int .i64 0) (fun _ i => 2 - (intOf i).toNat)
    case atStart => exact ⟨rfl, rfl⟩
    case round =>
      obtain ⟨rfl, rfl⟩ := hrel
      go_wp2
      go_ret
      exact ⟨rfl, rfl⟩
  have r1 : roomF left a = left - a := by unfold roomF; rw [if_neg (by omega)]
  rw [r1]
  obtain ⟨l1, hl1⟩ : ∃ l, left - a = l := ⟨_, rfl⟩
  rw [hl1]
  have e1 : IntKind.i64.wrap (left - a) = l1 := by rw [hl1]; exact IntWalk.i64_in _ (by omega)
  have a3 : ¬ l1 < 0 := by omega
  by_cases a4 : l1 < b
  · have r : roomF l1 b = -1 := by unfold roomF; rw [if_pos (.inr a4)]
    rw [r]
    clear r r1 hm1
    go_enter Try.func45, Try.ntmps45
    go_wp2
    go_loop [0, 5] (fun x i => (x = .int .i64 left ∧ i = .int .i64 0) ∨ (x = .int .i64 l1 ∧ i = .int .i64 1)) (fun _ i => 2 - (intOf i).toNat)
    case atStart => exact .inl ⟨rfl, rfl⟩
    case round =>
      rcases hrel with ⟨rfl, rfl⟩ | ⟨rfl, rfl⟩
      · go_wp2
        go_round
        case rel => exact .inr ⟨rfl, rfl⟩
        case measure => simp [intOf]
      · go_wp2
        go_ret
        exact ⟨rfl, rfl⟩
  · have r : roomF l1 b = l1 - b := by unfold roomF; rw [if_neg (by omega)]
    rw [r]
    have e2 : IntKind.i64.wrap (l1 - b) = l1 - b := IntWalk.i64_in _ (by omega)
    clear r r1 hm1
    go_enter Try.func45, Try.ntmps45
    go_wp2
    go_loop [0, 5] (fun x i => (x = .int .i64 left ∧ i = .int .i64 0) ∨ (x = .int .i64 l1 ∧ i = .int .i64 1) ∨ (x = .int .i64 (l1 - b) ∧ i = .int .i64 2)) (fun _ i => 2 - (intOf i).toNat)
    case atStart => exact .inl ⟨rfl, rfl⟩
    case round =>
      rcases hrel with ⟨rfl, rfl⟩ | ⟨rfl, rfl⟩ | ⟨rfl, rfl⟩
      · go_wp2
        go_round
        case rel => exact .inr (.inl ⟨rfl, rfl⟩)
        case measure => simp [intOf]
      · go_wp2
        go_round
        case rel => exact .inr (.inr ⟨rfl, rfl⟩)
        case measure => simp [intOf]
      · go_wp2
        go_ret
        exact ⟨rfl, rfl⟩
def LightOut (len : Nat) (xs : List OpR) (w : World) (e : Ending) (w' : World) : Prop := ∃ b : Bool, e = .returned (.bool b) ∧ (b = true → len ≤ 80 ∧ ∀ o ∈ xs, o.data.size ≤ 20000) ∧ Below w.heap.size w w'
set_option maxHeartbeats 4000000 in
set_option maxRecDepth 100000 in
theorem light_any (w : World) (a : Option Addr) (len cap : Nat) (xs : List OpR) (h : OpsIs w a len cap xs) :
    Calls Try.prog 27 #[.slice a len cap] w (LightOut len xs w) := by
  have hlm : len ≤ cap ∧ cap ≤ maxLen ∧ xs.length = len := ⟨h.1, h.2.1, h.2.2.1⟩
  unfold maxLen at hlm
  have HX := Lib.hid h
  have HN := Lib.hid hlm.2.2
  have hlm1 := hlm.1
  have hlm2 := hlm.2.1
  clear h hlm
  go_enter Try.func27, Try.ntmps27
  go_wp2
  go_loopw [3, 4] (fun x i wr => ∃ (k : Nat) (r : Int), k ≤ len ∧ k ≤ 200 ∧ i = .int .i64 (k : Int) ∧ x = .int .i64 r ∧ -1 ≤ r ∧ r ≤ 20000 ∧ Hid (0 ≤ r → ∀ o ∈ xs.take k, o.data.size ≤ 20000) ∧ Hid (Below w.heap.size w wr)) (fun _ i _ => len - (intOf i).toNat)
  case atStart => exact ⟨0, 20000, by omega, by omega, rfl, rfl, by omega, by omega, Lib.hid (fun _ p hp => by simp at hp), Lib.hid (belowSame _)⟩
  case round =>
    obtain ⟨k, r, hk, hk2, rfl, rfl, hr1, hr2, HR, HB⟩ := hrel
    by_cases hlt : k < len
    · by_cases h100 : k < 200
      · by_cases hneg : r < 0
        · have hng : ¬ (0 : Int) ≤ r := by omega
          by_cases h60 : len ≤ 80
          · go_wp2
            go_ret
            exact ⟨false, rfl, (by intro h; cases h), HB.out⟩
          · go_wp2
            go_ret
            exact ⟨false, rfl, (by intro h; cases h), HB.out⟩
        · have hge : (0 : Int) ≤ r := by omega
          clear hneg
          obtain ⟨b, off, o, rfl, ho, hok, hbl, hkc, _, _, _, _, _, c5, c6, _⟩ := (HX.out.old HB.out).at_ hlt
          have hsz := hok.data
          have hkl := hok.kl
          unfold maxLen at hsz hkl
          have HP := Lib.hid ho
          have kr := fun (W : World) (g : Nat) (hB : Blk W g 3 #[.int .i64 (o.data.size : Int), .int .i64 (o.kl : Int)]) => room_two r (o.data.size : Int) (o.kl : Int) hB (by omega) (by omega) (by omega) (by omega)
          have KR := Lib.hid kr
          have C5 := Lib.hid c5
          have C6 := Lib.hid c6
          have HLB : Hid (b < wr.heap.size) := Lib.hid hbl
          clear ho hok kr c5 c6 hbl
          go_upto_region 5 with fail
          refine wp_region_inv2 (fun i' v' w' => ([(fun v' _ => v' = (.int .i64 r)), (fun v' _ => v' = (.slice (some ⟨b, off, none⟩) len cap)), (fun v' _ => v' = (.int .i64 (k : Int))), (fun v' _ => v' = (.pointer (some ⟨b, off + k * 8, none⟩))), (fun v' _ => v' = (.pointer (some ⟨b, off + k * 8 + 5, none⟩))), (fun v' _ => v' = (.string o.data)), (fun v' _ => v' = (.int .i64 (o.data.size : Int))), (fun v' _ => v' = (.slice (some ⟨b, off, none⟩) len cap)), (fun v' _ => v' = (.int .i64 (k : Int))), (fun v' _ => v' = (.pointer (some ⟨b, off + k * 8, none⟩))), (fun v' _ => v' = (.pointer (some ⟨b, off + k * 8 + 6, none⟩))), (fun v' _ => v' = (.slice o.ka o.kl o.kc)), (fun v' _ => v' = (.int .i64 (o.kl : Int))), (fun v' w' => SliceAt 3 #[(.int .i64 (o.data.size : Int)), (.int .i64 (o.kl : Int))] v' w'), (fun v' _ => v' = (.int .i64 (roomF (roomF r o.data.size) o.kl))), (fun v' _ => v' = (.int .i64 (roomF (roomF r o.data.size) o.kl)))] : List (Value → World → Prop)).getD i' (fun _ _ => True) v' w') (by kernel_rfl) (by kernel_rfl) (stab_list (by
              repeat (first | exact allStab_nil | refine allStab_cons (stab_eq _) ?_ | refine allStab_cons (stab_slice _ _) ?_))) ?_ ?_
          · refine steps2_cons rfl ?_ ?_
            · intro a w hR hO K hK
              have e3 : a.tmps.getD 3 undef = (.int .i64 r) := kept_old hO 3 (by kernel_rfl) rfl
              rw [if_pos (wanted_none rfl)]
              clear hO
              have hB := hR.bel
              clear hR
              go_simp
              exact hK _ _ (belowSame _) rfl
            refine steps2_cons rfl ?_ ?_
            · intro a w hR hO K hK
              have e0 : a.tmps.getD 0 undef = (.slice (some ⟨b, off, none⟩) len cap) := hR.old 0 (by kernel_rfl) rfl
              rw [if_pos (wanted_none rfl)]
              clear hO
              have hB := hR.bel
              clear hR
              go_simp
              exact hK _ _ (belowSame _) rfl
            refine steps2_cons rfl ?_ ?_
            · intro a w hR hO K hK
              have e4 : a.tmps.getD 4 undef = (.int .i64 (k : Int)) := hR.old 4 (by kernel_rfl) rfl
              rw [if_pos (wanted_none rfl)]
              clear hO
              have hB := hR.bel
              clear hR
              go_simp
              exact hK _ _ (belowSame _) rfl
            refine steps2_cons rfl ?_ ?_
            · intro a w hR hO K hK
              obtain ⟨v20, e20, _, q20⟩ := hR.val 1 20 (by kernel_rfl) (by kernel_rfl)
              obtain rfl : v20 = (.slice (some ⟨b, off, none⟩) len cap) := q20
              obtain ⟨v21, e21, _, q21⟩ := hR.val 2 21 (by kernel_rfl) (by kernel_rfl)
              obtain rfl : v21 = (.int .i64 (k : Int)) := q21
              rw [if_pos (wanted_none rfl)]
              clear hO
              have hB := hR.bel
              clear hR
              go_simp
              exact hK _ _ (belowSame _) rfl
            refine steps2_cons rfl ?_ ?_
            · intro a w hR hO K hK
              obtain ⟨v22, e22, _, q22⟩ := hR.val 3 22 (by kernel_rfl) (by kernel_rfl)
              obtain rfl : v22 = (.pointer (some ⟨b, off + k * 8, none⟩)) := q22
              rw [if_pos (wanted_none rfl)]
              clear hO
              have hB := hR.bel
              clear hR
              go_simp
              exact hK _ _ (belowSame _) rfl
            refine steps2_cons rfl ?_ ?_
            · intro a w hR hO K hK
              obtain ⟨v23, e23, _, q23⟩ := hR.val 4 23 (by kernel_rfl) (by kernel_rfl)
              obtain rfl : v23 = (.pointer (some ⟨b, off + k * 8 + 5, none⟩)) := q23
              rw [if_pos (wanted_none rfl)]
              clear hO
              have hc := (hR.bel.cell (p := ⟨b, off + k * 8 + 5, none⟩) HLB.out).trans C5.out
              clear hR
              go_simp
              exact hK _ _ (belowSame _) rfl
            refine steps2_cons rfl ?_ ?_
            · intro a w hR hO K hK
              obtain ⟨v24, e24, _, q24⟩ := hR.val 5 24 (by kernel_rfl) (by kernel_rfl)
              obtain rfl : v24 = (.string o.data) := q24
              rw [if_pos (wanted_none rfl)]
              clear hO
              have hB := hR.bel
              clear hR
              go_simp
              exact hK _ _ (belowSame _) rfl
            refine steps2_cons rfl ?_ ?_
            · intro a w hR hO K hK
              have e0 : a.tmps.getD 0 undef = (.slice (some ⟨b, off, none⟩) len cap) := hR.old 0 (by kernel_rfl) rfl
              rw [if_pos (wanted_none rfl)]
              clear hO
              have hB := hR.bel
              clear hR
              go_simp
              exact hK _ _ (belowSame _) rfl
            refine steps2_cons rfl ?_ ?_
            · intro a w hR hO K hK
              have e4 : a.tmps.getD 4 undef = (.int .i64 (k : Int)) := hR.old 4 (by kernel_rfl) rfl
              rw [if_pos (wanted_none rfl)]
              clear hO
              have hB := hR.bel
              clear hR
              go_simp
              exact hK _ _ (belowSame _) rfl
            refine steps2_cons rfl ?_ ?_
            · intro a w hR hO K hK
              obtain ⟨v26, e26, _, q26⟩ := hR.val 7 26 (by kernel_rfl) (by kernel_rfl)
              obtain rfl : v26 = (.slice (some ⟨b, off, none⟩) len cap) := q26
              obtain ⟨v27, e27, _, q27⟩ := hR.val 8 27 (by kernel_rfl) (by kernel_rfl)
              obtain rfl : v27 = (.int .i64 (k : Int)) := q27
              rw [if_pos (wanted_none rfl)]
              clear hO
              have hB := hR.bel
              clear hR
              go_simp
              exact hK _ _ (belowSame _) rfl
            refine steps2_cons rfl ?_ ?_
            · intro a w hR hO K hK
              obtain ⟨v28, e28, _, q28⟩ := hR.val 9 28 (by kernel_rfl) (by kernel_rfl)
              obtain rfl : v28 = (.pointer (some ⟨b, off + k * 8, none⟩)) := q28
              rw [if_pos (wanted_none rfl)]
              clear hO
              have hB := hR.bel
              clear hR
              go_simp
              exact hK _ _ (belowSame _) rfl
            refine steps2_cons rfl ?_ ?_
            · intro a w hR hO K hK
              obtain ⟨v29, e29, _, q29⟩ := hR.val 10 29 (by kernel_rfl) (by kernel_rfl)
              obtain rfl : v29 = (.pointer (some ⟨b, off + k * 8 + 6, none⟩)) := q29
              rw [if_pos (wanted_none rfl)]
              clear hO
              have hc := (hR.bel.cell (p := ⟨b, off + k * 8 + 6, none⟩) HLB.out).trans C6.out
              clear hR
              go_simp
              exact hK _ _ (belowSame _) rfl
            refine steps2_cons rfl ?_ ?_
            · intro a w hR hO K hK
              obtain ⟨v30, e30, _, q30⟩ := hR.val 11 30 (by kernel_rfl) (by kernel_rfl)
              obtain rfl : v30 = (.slice o.ka o.kl o.kc) := q30
              rw [if_pos (wanted_none rfl)]
              clear hO
              have hB := hR.bel
              clear hR
              go_simp
              exact hK _ _ (belowSame _) rfl
            refine steps2_cons rfl ?_ ?_
            · intro a w hR hO K hK
              obtain ⟨v25, e25, _, q25⟩ := hR.val 6 25 (by kernel_rfl) (by kernel_rfl)
              obtain rfl : v25 = (.int .i64 (o.data.size : Int)) := q25
              obtain ⟨v31, e31, _, q31⟩ := hR.val 12 31 (by kernel_rfl) (by kernel_rfl)
              obtain rfl : v31 = (.int .i64 (o.kl : Int)) := q31
              rw [if_pos (wanted_none rfl)]
              clear hO
              have hB := hR.bel
              clear hR
              go_simp
              exact hK _ _ (belowNew (belowSame _) _) ⟨_, rfl, Blk.new _ _ _⟩
            refine steps2_cons rfl ?_ ?_
            · intro a w hR hO K hK
              obtain ⟨v19, e19, _, q19⟩ := hR.val 0 19 (by kernel_rfl) (by kernel_rfl)
              obtain rfl : v19 = (.int .i64 r) := q19
              obtain ⟨v32, e32, _, q32⟩ := hR.val 13 32 (by kernel_rfl) (by kernel_rfl)
              obtain ⟨g32, rfl, b32⟩ := slice_at q32
              rw [if_pos (wanted_none rfl)]
              clear hO
              have hB := hR.bel
              clear hR
              go_simp
              refine (KR.out _ _ b32).mono ?_
              rintro e w' ⟨rfl, hw⟩
              exact hK _ _ (by first | exact belowOfEq hw | exact hw) rfl
            refine steps2_cons rfl ?_ ?_
            · intro a w hR hO K hK
              obtain ⟨v33, e33, _, q33⟩ := hR.val 14 33 (by kernel_rfl) (by kernel_rfl)
              obtain rfl : v33 = (.int .i64 (roomF (roomF r o.data.size) o.kl)) := q33
              rw [if_pos (wanted_none rfl)]
              clear hO
              have hB := hR.bel
              clear hR
              go_simp
              exact hK _ _ (belowSame _) rfl
            exact steps2_nil
          · intro a' w' hF
            obtain ⟨v3, e3, _, q3⟩ := hF.val 15 3 (by decide) (by kernel_rfl)
            obtain rfl : v3 = (.int .i64 (roomF (roomF r o.data.size) o.kl)) := q3
            have hB := belowUndrew hF.bel
            have hf := hF.frame
            rw [show dsts _ = [19, 20, 21, 22, 23, 24, 25, 26, 27, 28, 29, 30, 31, 32, 33, 3] from by kernel_rfl] at hf
            obtain ⟨z19, h19⟩ : ∃ z, a'.tmps.getD 19 undef = z := ⟨_, rfl⟩
            obtain ⟨z20, h20⟩ : ∃ z, a'.tmps.getD 20 undef = z := ⟨_, rfl⟩
            obtain ⟨z21, h21⟩ : ∃ z, a'.tmps.getD 21 undef = z := ⟨_, rfl⟩
            obtain ⟨z22, h22⟩ : ∃ z, a'.tmps.getD 22 undef = z := ⟨_, rfl⟩
            obtain ⟨z23, h23⟩ : ∃ z, a'.tmps.getD 23 undef = z := ⟨_, rfl⟩
            obtain ⟨z24, h24⟩ : ∃ z, a'.tmps.getD 24 undef = z := ⟨_, rfl⟩
            obtain ⟨z25, h25⟩ : ∃ z, a'.tmps.getD 25 undef = z := ⟨_, rfl⟩
            obtain ⟨z26, h26⟩ : ∃ z, a'.tmps.getD 26 undef = z := ⟨_, rfl⟩
            obtain ⟨z27, h27⟩ : ∃ z, a'.tmps.getD 27 undef = z := ⟨_, rfl⟩
            obtain ⟨z28, h28⟩ : ∃ z, a'.tmps.getD 28 undef = z := ⟨_, rfl⟩
            obtain ⟨z29, h29⟩ : ∃ z, a'.tmps.getD 29 undef = z := ⟨_, rfl⟩
            obtain ⟨z30, h30⟩ : ∃ z, a'.tmps.getD 30 undef = z := ⟨_, rfl⟩
            obtain ⟨z31, h31⟩ : ∃ z, a'.tmps.getD 31 undef = z := ⟨_, rfl⟩
            obtain ⟨z32, h32⟩ : ∃ z, a'.tmps.getD 32 undef = z := ⟨_, rfl⟩
            obtain ⟨z33, h33⟩ : ∃ z, a'.tmps.getD 33 undef = z := ⟨_, rfl⟩
            simp only [List.foldl_cons, List.foldl_nil, h19, h20, h21, h22, h23, h24, h25, h26, h27, h28, h29, h30, h31, h32, h33, e3] at hf
            simp only [List.setIfInBounds_toArray, List.set_cons_zero, List.set_cons_succ] at hf
            clear hF e3 h19 h20 h21 h22 h23 h24 h25 h26 h27 h28 h29 h30 h31 h32 h33
            subst hf
            have HB2 := Lib.hid (HB.out.trans (hB.mono HB.out.size))
            clear hB
            go_wp2_with fail
            go_roundw
            case rel =>
              refine ⟨k + 1, roomF (roomF r o.data.size) o.kl, by omega, by omega, by go_num, rfl, ?_, ?_, Lib.hid ?_, HB2⟩
              · unfold roomF; split <;> split <;> omega
              · unfold roomF; split <;> split <;> omega
              · intro h0 q hq
                have hsz2 : o.data.size ≤ 20000 := by unfold roomF at h0; split at h0 <;> split at h0 <;> omega
                rw [List.take_add_one, HP.out] at hq
                simp at hq
                rcases hq with hq | rfl
                · exact HR.out hge q hq
                · exact hsz2
            case measure => simp [intOf]; omega
      · have h60 : ¬ len ≤ 80 := by omega
        obtain rfl : k = 200 := by omega
        go_wp2
        go_ret
        exact ⟨false, rfl, (by intro h; cases h), HB.out⟩
    · by_cases h60 : len ≤ 80
      · by_cases hneg : r < 0
        · have hng : ¬ (0 : Int) ≤ r := by omega
          go_wp2
          go_ret
          exact ⟨false, rfl, (by intro h; cases h), HB.out⟩
        · have hge : (0 : Int) ≤ r := by omega
          go_wp2
          go_ret
          refine ⟨true, rfl, fun _ => ⟨h60, ?_⟩, HB.out⟩
          have := HR.out hge
          rwa [List.take_of_length_le (by have := HN.out; omega)] at this
      · go_wp2
        go_ret
        exact ⟨false, rfl, (by intro h; cases h), HB.out⟩
end Go.Proofs.Ytlnomfaaldjnpaa.DK
