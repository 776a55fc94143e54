/- The disk: Read. No condition. -/
import Derived.Test.YtacogpogplionaaDk9
namespace Go.Proofs.Ytacogpogplionaa.DK
set_option maxRecDepth 100000
open Go.RowKit Go.Proofs.Ytacogpogplionaa.MI
set_option linter.unusedVariables false
set_option linter.unusedSimpArgs false

theorem strBytes (s : ByteArray) : Lib.strCells s = Lib.byteCells s.data.toList := rfl
theorem byte_append (a b : List UInt8) : Lib.byteCells a ++ Lib.byteCells b = Lib.byteCells (a ++ b) := by simp [Lib.byteCells]
theorem readS_len {D : Dk} (h : Sane D) (a : Int) (k : Nat) : (readS D a k).length = 64 * k := by
  induction k with
  | zero => rfl
  | succ k ih =>
    unfold readS
    rw [List.length_append, ih]
    have : ((D.now (a + (k : Int))).getD zsec).data.toList.length = 64 := by
      cases hd : D.now (a + (k : Int)) with
      | none => rfl
      | some s => have := h.now _ s hd; simpa using this
    omega
section
variable {w w' : World} {B g N : Nat} {p : Pl} {D : Dk}
structure ReadRel (D : Dk) (a : Int) (w : World) (k : Nat) (wr : World) : Prop where
  b : Lib.IsBuilder 89 5 w.heap.size w.heap.size (Lib.byteCells (readS D a k)) wr
  bel : Below w.heap.size w wr
theorem ReadRel.step {wr w1 w2 : World} {a : Int} {k : Nat} {s : ByteArray} (h : ReadRel D a w k wr) (hs : s = (D.now (a + (k : Int))).getD zsec) (hb1 : Below w.heap.size wr w1)
    (hb : Lib.BuilderAt 89 5 w.heap.size w.heap.size (.pointer (some ⟨w.heap.size, 0, none⟩)) (Lib.byteCells (readS D a k) ++ Lib.strCells s) w2) (h2 : Below w.heap.size w1 w2) : ReadRel D a w (k + 1) w2 := by
  refine ⟨.inr ?_, (h.bel.trans hb1).trans h2⟩
  have e : readS D a (k + 1) = readS D a k ++ s.data.toList := by rw [hs]; rfl
  rw [e, ← byte_append, ← strBytes]
  exact hb
theorem builder_below {T e : TypeId} {B b : Nat} {bs : List Value} {w w' : World} (h : Lib.IsBuilder T e B b bs w) (hb : Below w.heap.size w w') : Lib.IsBuilder T e B b bs w' := by
  have one : ∀ p, Lib.BuilderAt T e B b p bs w → Lib.BuilderAt T e B b p bs w' := fun p h => by
    have hlt := Lib.BuilderAt.lt h
    obtain ⟨hB, v, h1, h2, h3⟩ := h
    exact ⟨hB, v, (hb.block b hlt).trans h1, own_keeps h2 (Keeps.of_below hb (fun _ => False)) (fun _ _ h => h), h3⟩
  exact h.imp (one _) (one _)
set_option maxHeartbeats 2000000 in
theorem read_ok (h : DiskAt w B g p N D) (hon : D.on = true) (a : Int) (n : Nat) (hr : readB D a (n : Int) = true) :
    Calls Try.prog 29 #[.pointer (some ⟨g, 0, none⟩), .int .i64 a, .int .i64 (n : Int)] w fun e w' => e = .returned (.tuple #[.string ⟨(readS D a n).toArray⟩, .int .i64 0]) ∧ Below w.heap.size w w' := by
  have ko := on_any h
  have kt := there_any h a (n : Int)
  have hT : thereK D a (n : Int) = true := by unfold readB at hr; simp at hr; exact hr.2
  have hn : 1 ≤ n ∧ n ≤ 400 := by unfold readB at hr; simp at hr; omega
  have hroom := h.sane.room
  have ha : 0 ≤ a ∧ a + (n : Int) ≤ 20000 := by unfold thereK at hT; simp at hT; omega
  rw [hon] at ko
  rw [hT] at kt
  obtain ⟨hn1, hn2⟩ := hn
  have b1 : decide ((n : Int) < 1) = false := by simp; omega
  have b2 : decide (400 < (n : Int)) = false := by simp; omega
  have c3 : ∀ wr, Below w.heap.size w wr → wr.cell? ⟨g, 3, none⟩ = some (.map (some p.nb)) := fun wr hb => (h.old hb).blk.cell 3
  obtain ⟨q, hq, hmq⟩ := h.now
  have HM : Hid (∀ wr, Below w.heap.size w wr → MapAt scode Try.prog TI wr p.nb q D.now) := Lib.hid fun wr hb => hmq.keeps (Keeps.of_below hb (fun _ => False)) id
  have HS := Lib.hid h.sane
  have H0 : Hid (ReadRel D a w 0 (w.alloc (.cells #[.pointer none, .slice none 0 0] 89))) := Lib.hid ⟨Lib.fresh_isBuilder _ _ w, (Below.refl _ w).alloc (Nat.le_refl _) _⟩
  have hrep : (ByteArray.mk (Lib.repeatL (ByteArray.mk #[0]).data.toList 64).toArray) = zsec := by kernel_rfl
  have krep := fun w => Try.strings_Repeat (ByteArray.mk #[0]) 64 w (by omega) (by decide)
  rw [hrep] at krep
  have HC3 := Lib.hid c3
  clear h hr hT hon hmq c3 hrep
  go_enter Try.func29, Try.ntmps29
  go_wp2_with (first
    | (go_at_call 44; refine ko.mono ?_; rintro e w0 ⟨rfl, rfl⟩)
    | (go_at_call 45; refine kt.mono ?_; rintro e w0 ⟨rfl, rfl⟩))
  go_loopw [31] (fun i wr => ∃ k : Nat, k ≤ n ∧ i = .int .i64 (k : Int) ∧ Hid (ReadRel D a w0 k wr)) (fun i _ => n - (intOf i).toNat)
  case atStart => exact ⟨0, Nat.zero_le _, rfl, H0⟩
  case round =>
    obtain ⟨k, hk, rfl, HR⟩ := hrel
    have hbw := HR.out.bel
    by_cases hlt : k < n
    · have c3 := HC3.out wr hbw
      have HMR := Lib.hid (HM.out wr hbw)
      have e1 : IntKind.i64.wrap (a + (k : Int)) = a + (k : Int) := IntWalk.i64_in _ (by omega)
      have HW : Hid (WfI (a + (k : Int))) := Lib.hid (wfA ⟨by omega, by omega⟩)
      have hl := readS_len HS.out a k
      have hsz : (Lib.byteCells (readS D a k)).length + 64 ≤ 140737488355328 := by rw [Lib.byteCells_length, hl]; omega
      have hws := hbw.size
      cases hd : D.now (a + (k : Int)) with
      | none =>
        have HD := Lib.hid hd
        have hb2 := fun w1 (h1 : Below wr.heap.size wr w1) => builder_below HR.out.b h1
        have HB2 := Lib.hid hb2
        clear hbw hl hd hb2
        go_wp2_with (first
          | (at_lookup; refine wp_look_ok _ rfl _ _ 59 rfl TI 9 underI underN (ByteArray.mk #[]) (zeroS _) p.nb q D.now rfl HMR.out (a + (k : Int)) rfl HW.out ?_; rw [HD.out]; dsimp only [scode, Option.getD_none, Option.isSome_none])
          | (go_at_call 32; refine (krep wr).mono ?_; rintro e w1 ⟨rfl, hb1⟩; have kw := writeString_any w0.heap.size w0.heap.size _ zsec w1 (HB2.out w1 hb1) hsz (Nat.le_trans hws hb1.size); have HB1 := Lib.hid (hb1.mono hws); clear hb1)
          | (go_at_call 46; refine kw.mono ?_; rintro e w2 ⟨rfl, hbu, hb3⟩; have R2 := Lib.hid (HR.out.step (s := zsec) (by rw [HD.out]; rfl) HB1.out hbu hb3); clear hbu hb3 kw))
        go_roundw
        case rel => exact ⟨k + 1, by omega, by go_num, R2⟩
        case measure => simp [intOf]; omega
      | some s =>
        have HD := Lib.hid hd
        have hss := HS.out.now _ s hd
        have kw := writeString_any w0.heap.size w0.heap.size _ s wr HR.out.b (by rw [hss]; exact hsz) hws
        clear hbw hl hd hss
        go_wp2_with (first
          | (at_lookup; refine wp_look_ok _ rfl _ _ 59 rfl TI 9 underI underN (ByteArray.mk #[]) (zeroS _) p.nb q D.now rfl HMR.out (a + (k : Int)) rfl HW.out ?_; rw [HD.out]; dsimp only [scode, Option.getD_some, Option.isSome_some])
          | (go_at_call 46; refine kw.mono ?_; rintro e w2 ⟨rfl, hbu, hb3⟩; have R2 := Lib.hid (HR.out.step (s := s) (by rw [HD.out]; rfl) (Below.refl _ wr) hbu hb3); clear hbu hb3 kw))
        go_roundw
        case rel => exact ⟨k + 1, by omega, by go_num, R2⟩
        case measure => simp [intOf]; omega
    · obtain rfl : k = n := by omega
      have ks := Try.Builder_String_any w0.heap.size w0.heap.size (readS D a k) wr HR.out.b hbw.size
      have HBW := Lib.hid hbw
      clear hbw
      go_wp2_with (go_at_call 47; refine ks.mono ?_; rintro e w2 ⟨rfl, hb3⟩; have H3 := Lib.hid (HBW.out.trans hb3); clear hb3 ks)
      go_ret2
      exact ⟨rfl, H3.out⟩
theorem read_off (h : DiskAt w B g p N D) (a n : Int) (hno : D.on = false ∨ readB D a n = false) :
    Calls Try.prog 29 #[.pointer (some ⟨g, 0, none⟩), .int .i64 a, .int .i64 n] w fun e w' => e = .returned (.tuple #[.string ⟨#[]⟩, .int .i64 (if D.on then 30 else 14)]) ∧ w' = w := by
  have ko := on_any h
  have kt := there_any h a n
  cases hon : D.on
  · rw [hon] at ko
    clear h hno hon kt
    go_enter Try.func29, Try.ntmps29
    go_wp2_with (go_at_call 44; refine ko.mono ?_; rintro e w0 ⟨rfl, rfl⟩)
    go_ret2
    exact ⟨rfl, rfl⟩
  · rw [hon] at ko
    have hno' : readB D a n = false := by rcases hno with h0 | h0; rw [hon] at h0; cases h0; exact h0
    have hcs : n < 1 ∨ (1 ≤ n ∧ 400 < n) ∨ (1 ≤ n ∧ n ≤ 400 ∧ thereK D a n = false) := by
      unfold readB at hno'
      by_cases h1 : 1 ≤ n
      · by_cases h2 : n ≤ 400
        · simp [h1, h2] at hno'; exact .inr (.inr ⟨h1, h2, hno'⟩)
        · exact .inr (.inl ⟨h1, by omega⟩)
      · exact .inl (by omega)
    rcases hcs with h1 | ⟨h1, h2⟩ | ⟨h1, h2, h3⟩
    · have b1 : decide (n < 1) = true := by simpa using h1
      clear h hno hno' hon kt
      go_enter Try.func29, Try.ntmps29
      go_wp2_with (go_at_call 44; refine ko.mono ?_; rintro e w0 ⟨rfl, rfl⟩)
      go_ret2
      exact ⟨rfl, rfl⟩
    · have b1 : decide (n < 1) = false := by simp; omega
      have b2 : decide (400 < n) = true := by simpa using h2
      clear h hno hno' hon kt
      go_enter Try.func29, Try.ntmps29
      go_wp2_with (go_at_call 44; refine ko.mono ?_; rintro e w0 ⟨rfl, rfl⟩)
      go_ret2
      exact ⟨rfl, rfl⟩
    · have b1 : decide (n < 1) = false := by simp; omega
      have b2 : decide (400 < n) = false := by simpa using h2
      rw [h3] at kt
      clear h hno hno' hon h3
      go_enter Try.func29, Try.ntmps29
      go_wp2_with (first
        | (go_at_call 44; refine ko.mono ?_; rintro e w0 ⟨rfl, rfl⟩)
        | (go_at_call 45; refine kt.mono ?_; rintro e w0 ⟨rfl, rfl⟩))
      go_ret2
      exact ⟨rfl, rfl⟩
theorem read_any (h : DiskAt w B g p N D) (a n : Int) :
    Calls Try.prog 29 #[.pointer (some ⟨g, 0, none⟩), .int .i64 a, .int .i64 n] w fun e w' => e = .returned (.tuple #[.string (readT D a n), .int .i64 (readE D a n)]) ∧ Below w.heap.size w w' := by
  cases hon : D.on
  · have h1 : readE D a n = 14 := by unfold readE; rw [hon]; rfl
    have h2 : readT D a n = ⟨#[]⟩ := by unfold readT; rw [h1]; rfl
    rw [h1, h2]
    exact (read_off h a n (.inl hon)).mono fun e w' ⟨he, hw⟩ => ⟨by rw [he, hon]; rfl, by rw [hw]; exact Below.refl _ _⟩
  · cases hr : readB D a n
    · have h1 : readE D a n = 30 := by unfold readE; rw [hon, hr]; rfl
      have h2 : readT D a n = ⟨#[]⟩ := by unfold readT; rw [h1]; rfl
      rw [h1, h2]
      exact (read_off h a n (.inr hr)).mono fun e w' ⟨he, hw⟩ => ⟨by rw [he, hon]; rfl, by rw [hw]; exact Below.refl _ _⟩
    · have h1 : readE D a n = 0 := by unfold readE; rw [hon, hr]; rfl
      have h2 : readT D a n = ⟨(readS D a n.toNat).toArray⟩ := by unfold readT; rw [h1]; rfl
      have hn : 1 ≤ n := by unfold readB at hr; simp at hr; omega
      rw [h1, h2]
      obtain ⟨m, rfl⟩ : ∃ m : Nat, n = (m : Int) := ⟨n.toNat, by omega⟩
      exact read_ok h hon a m hr
end
end Go.Proofs.Ytacogpogplionaa.DK
