/- commonsbook.LentTexts, StaysTexts. No condition. -/
import Derived.Test.YtooapgeokonlhaaBookTexts
namespace Go.Proofs.Ytooapgeokonlhaa.Bk
open Go.RowKit
set_option linter.unusedVariables false

theorem infoStr : (Try.prog.info? 9).map (fun i => (i.zero, i.size, i.bytes)) = some (some (.string ByteArray.empty), 1, 16) := by kernel_rfl
abbrev tMark : ByteArray := ByteArray.mk #[109, 97, 114, 107]
/-- A list with room behind it, in which a mark stands. -/
def LentAt (w : World) (B g n cap : Nat) (l : List ByteArray) : Prop := w.ownsRow B 9 1 (.slice (some ⟨g, 0, none⟩) (n + 1) cap) (n + 1) (l.map Value.string ++ [.string tMark])
def LentOut (n : Nat) (l : List ByteArray) (w : World) (e : Ending) (w' : World) : Prop := ∃ g cap, e = .returned (.slice (some ⟨g, 0, none⟩) n cap) ∧ n + 1 ≤ cap ∧ cap ≤ maxLen ∧ LentAt w' w.heap.size g n cap l ∧ Below w.heap.size w w'

theorem own_cap {w : World} {B : Nat} {e : TypeId} {g n cap : Nat} {xs : List Value} (h : w.ownsRow B e 1 (.slice (some ⟨g, 0, none⟩) n cap) n xs) : n ≤ cap ∧ cap ≤ maxLen := by
  rcases h.2 with ⟨h0, _⟩ | ⟨g', cap', cur, h0, _, _, h1, h2, _⟩
  · cases h0
  · injection h0 with _ _ h0; subst h0; exact ⟨h1, h2⟩
theorem lent_texts (A : Option Addr) (n c : Nat) (l : List ByteArray) (w : World) (hl : Lies w 1 A n (l.map Value.string)) (hn : n ≤ 100000) :
    Calls Try.prog 9 #[.slice A n c] w (LentOut n l w) := by
  obtain ⟨i0, hi, hz0, hz1, hz2⟩ := info_parts infoStr
  have HL := Lib.hid hl
  have h1 : ∀ u ∈ l.map Value.string, u.oneCell' = true := by intro u hu; obtain ⟨s, _, rfl⟩ := List.mem_map.1 hu; rfl
  have H1 := Lib.hid h1
  have HI := Lib.hid (And.intro hi (And.intro hz0 (And.intro hz1 hz2)))
  clear hl h1 hi hz0 hz1 hz2
  go_enter Try.func9, Try.ntmps9
  go_wp2_with (first
    | (at_builtin; refine wpList_append_lie _ rfl _ _ 22 rfl w.heap.size 9 i0 _ 1 16 Try.underlying22 HI.out.1 HI.out.2.1 HI.out.2.2.1 HI.out.2.2.2 rfl (by decide) a1 n cp1 (l.map Value.string) rfl O1.out (some ⟨w1.heap.size, 0, none⟩) 1 1 [.string tMark] rfl (Lies.of_blk (cs := #[.string tMark]) (Blk.new _ _ _)) (by intro u hu; simp at hu; subst hu; rfl) (by unfold maxLen; omega) (by omega) (by have := GR.out.size; simp; omega) ?_; intro a2 cp2 w2 hown2 hg2 hat2; have O2 := Lib.hid hown2; have G2 := Lib.hid hg2; have F2 := hown2.form (by omega); clear hown2 hg2 hat2; obtain ⟨g, hF⟩ := F2; obtain ⟨cap9, hv, _⟩ := hF; obtain ⟨rfl, _⟩ : a2 = some ⟨g, 0, none⟩ ∧ True := ⟨by injection hv, trivial⟩; clear hv; have k1 : n + 1 ≤ cp2 := (own_cap O2.out).1; have K2 := Lib.hid (own_cap O2.out).2; have k3 : (n : Int) ≤ (cp2 : Int) := by omega)
    | (at_builtin; refine wpList_append_lie _ rfl _ _ 22 rfl w.heap.size 9 i0 _ 1 16 Try.underlying22 HI.out.1 HI.out.2.1 HI.out.2.2.1 HI.out.2.2.2 rfl (by decide) none 0 0 [] rfl (World.ownsRow_nil _ _ _ _) A n c (l.map Value.string) rfl HL.out H1.out (by unfold maxLen; omega) (by omega) (Nat.le_refl _) ?_; intro a1 cp1 w1 hown1 hg1 hat1; rw [Nat.zero_add] at hown1 ⊢; rw [List.nil_append] at hown1; have OW := Lib.hid hown1; have O1 := Lib.hid (hown1.alloc (.cells #[.string tMark] 9)); have GR := Lib.hid ((Below.refl _ _).grown hg1 (Nat.le_refl _) (by simp [Value.ownBlock])); clear hown1 hg1 hat1))
  go_ret
  refine ⟨g, cp2, rfl, k1, K2.out, O2.out, ?_⟩
  refine (belowNew GR.out _).grown G2.out (by have := GR.out.size; simp; omega) ?_
  intro k hk
  exact (OW.out.lt k ((by cases a1 <;> rfl : (Value.slice a1 n cp1).ownBlock = (Value.slice a1 0 0).ownBlock).trans hk)).1

theorem LentAt.lies {w : World} {B g n cap : Nat} {l : List ByteArray} (h : LentAt w B g n cap l) (hl : l.length = n) : Lies w 1 (some ⟨g, 0, none⟩) n (l.map Value.string) := by
  have := (Lies.of_own h).take (k := n) (by omega)
  rw [List.take_append_of_le_length (by simp; omega), List.take_of_length_le (by simp; omega)] at this
  exact this
theorem LentAt.mark {w : World} {B g n cap : Nat} {l : List ByteArray} (h : LentAt w B g n cap l) (hl : l.length = n) : w.cell? ⟨g, n, none⟩ = some (.string tMark) := by
  have := h.cells (g := g) rfl n (.string tMark) (by rw [List.getElem?_append_right (by simp; omega)]; simp [hl])
  rw [← this]
  congr 1
  unfold Addr.add
  split <;> simp_all
theorem LentAt.below {w w' : World} {B g n cap : Nat} {l : List ByteArray} (h : LentAt w B g n cap l) (hb : Below w.heap.size w w') : LentAt w' B g n cap l :=
  own_keeps h (Keeps.of_below hb (fun _ => False)) (fun _ _ h => h)

theorem stays_texts (B g n cap c : Nat) (A : Option Addr) (l : List ByteArray) (w : World) (h : LentAt w B g n cap l) (hl : l.length = n) (hA : Lies w 1 A n (l.map Value.string)) (hn : n ≤ 100000) (h1 : n + 1 ≤ cap) (h2 : cap ≤ maxLen) :
    Calls Try.prog 20 #[.slice (some ⟨g, 0, none⟩) n cap, .slice A n c] w fun e w' => e = .returned (.bool true) ∧ ∃ m, w' = w.drewN m := by
  unfold maxLen at h2
  have ks := same_texts (some ⟨g, 0, none⟩) A n cap c l w (h.lies hl) hA (by unfold maxLen; omega)
  have cm := h.mark hl
  have k3 : (n : Int) + 1 ≤ (cap : Int) := by omega
  clear h hA hl
  go_enter Try.func20, Try.ntmps20
  go_wp2_with (go_at_call 26; refine ks.mono ?_; rintro e w' ⟨rfl, m, rfl⟩)
  go_ret
  exact ⟨rfl, m, rfl⟩
end Go.Proofs.Ytooapgeokonlhaa.Bk
