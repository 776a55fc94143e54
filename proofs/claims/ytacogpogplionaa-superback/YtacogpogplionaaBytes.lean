/- A text's bytes in a block: '[]byte(s)', a byte that is turned, 'string(b)'. Over any program. No condition. -/
import Derived.Test.YtacogpogplionaaRegInv
import Derived.Lib.ConvBytes
import Derived.Laws.BytesArg
namespace Go.Proofs.Ytacogpogplionaa
set_option maxRecDepth 100000
open Go.RowKit
set_option linter.unusedVariables false

def Cells (w : World) (g : Nat) (l : List UInt8) : Prop := g < w.heap.size ∧ ∀ j x, l[j]? = some x → w.cell? ⟨g, j, none⟩ = some (.int .u8 (x.toNat : Int)) ∧ w.frozen? ⟨g, j, none⟩ = false
section
variable {w w' : World} {g : Nat} {l : List UInt8}
theorem Cells.below {B : Nat} (h : Cells w g l) (hb : Below B w w') (hg : g < B) (hB : B ≤ w.heap.size) : Cells w' g l :=
  ⟨Nat.lt_of_lt_of_le h.1 hb.size, fun j x hx => ⟨(hb.cell (p := ⟨g, j, none⟩) hg).trans (h.2 j x hx).1, (hb.frozen (p := ⟨g, j, none⟩) hg).trans (h.2 j x hx).2⟩⟩
theorem Cells.kept (h : Cells w g l) (hb : Below w.heap.size w w') : Cells w' g l := h.below hb h.1 (Nat.le_refl _)
theorem heap_setCell_at (w : World) (p : Addr) (u : Value) (h : p.block < w.heap.size) : (w.setCell p u).heap.size = w.heap.size := by simp [World.setCell]
theorem Cells.set_ (h : Cells w g l) (p : Nat) (hp : p < l.length) (d : UInt8) : Cells (w.setCell ⟨g, p, none⟩ (.int .u8 (d.toNat : Int))) g (l.set p d) := by
  have h0 := h.2 p l[p] (List.getElem?_eq_getElem hp)
  refine ⟨by simpa [World.setCell] using h.1, fun j x hx => ?_⟩
  by_cases hj : j = p
  · subst hj
    rw [List.getElem?_set_self hp] at hx
    injection hx with hx
    subst hx
    refine ⟨?_, ?_⟩
    · have : (w.setCell ⟨g, j, none⟩ (.int .u8 (d.toNat : Int))).cell? ⟨g, j, none⟩ = some (.int .u8 (d.toNat : Int)) := World.cell?_setCell_same w ⟨g, j, none⟩ _ (by rw [h0.1])
      exact this
    · rw [World.frozen?_setCell]; exact h0.2
  · rw [List.getElem?_set_ne (fun e => hj e.symm)] at hx
    obtain ⟨h1, h2⟩ := h.2 j x hx
    refine ⟨?_, by rw [World.frozen?_setCell]; exact h2⟩
    rw [World.cell?_setCell_other w ⟨g, p, none⟩ ⟨g, j, none⟩ _ (fun e => hj (by injection e with e1 e2; exact e2.symm))]
    exact h1
theorem Cells.far (h : Cells w g l) {q : Addr} (hq : q.block ≠ g) (u : Value) : Cells (w.setCell q u) g l :=
  ⟨by simpa [World.setCell] using h.1, fun j x hx => ⟨by rw [World.cell?_setCell_other w q ⟨g, j, none⟩ u (fun e => hq (by rw [e]))]; exact (h.2 j x hx).1, by rw [World.frozen?_setCell]; exact (h.2 j x hx).2⟩⟩
theorem cells_new (w : World) (e : TypeId) (s : ByteArray) : Cells (Lib.bytesWorld w e s) w.heap.size s.data.toList := by
  refine ⟨by rw [Lib.bytesWorld_size]; omega, fun j x hx => ?_⟩
  have hj : j < s.size := by
    rcases Nat.lt_or_ge j s.data.toList.length with h | h
    · exact h
    · rw [List.getElem?_eq_none h] at hx; cases hx
  refine ⟨?_, ?_⟩
  · rw [Lib.bytesWorld_cell w e s j hj]
    rw [List.getD_eq_getElem?_getD, hx]
    rfl
  · have := Lib.bytesWorld_at_new w e s
    simp [World.frozen?, this, Lib.bytesCells]
    omega
theorem below_bytes (w : World) (e : TypeId) (s : ByteArray) : Below w.heap.size w (Lib.bytesWorld w e s) :=
  ⟨rfl, rfl, rfl, by rw [Lib.bytesWorld_size]; omega, fun k hk => Lib.bytesWorld_at_old w e s k hk⟩
theorem strOfNums_bytes (l : List UInt8) : strOfNums (l.map fun x => (x.toNat : Int)) = ⟨l.toArray⟩ := by
  unfold strOfNums
  congr 2
  rw [List.map_map]
  conv => rhs; rw [← List.map_id l]
  exact List.map_congr_left fun x _ => by simp
theorem Cells.str {P : Program} (h : Cells w g l) (src dst e : TypeId) (hs : P.underlying src = some (.slice e)) (he : P.underlying e = some (.int .u8)) (hd : P.underlying dst = some .string) (n c : Nat) (hn : l.length = n) :
    (convert src dst (.slice (some ⟨g, 0, none⟩) n c)).run P w = .ok (.string ⟨l.toArray⟩) w := by
  subst hn
  have := run_convert_bytes_arg (P := P) w src e hs he g 0 l.length c (l.map fun x => (x.toNat : Int)) (by simp) (fun i hi => by
    have hx : l[i]? = some l[i] := List.getElem?_eq_getElem (by simpa using hi)
    rw [Nat.zero_add, (h.2 i l[i] hx).1]
    simp [hx]) dst hd
  rw [strOfNums_bytes] at this
  exact this
end
theorem xor_u8 (a b : UInt8) : bits .xor .u8 (a.toNat : Int) (b.toNat : Int) = (((a ^^^ b).toNat : Nat) : Int) := by
  have h1 := a.toNat_lt
  have h2 := b.toNat_lt
  have hx : a.toNat ^^^ b.toNat < 2 ^ 8 := Nat.xor_lt_two_pow h1 h2
  show IntKind.u8.wrap ((BitVec.ofInt 8 (a.toNat : Int) ^^^ BitVec.ofInt 8 (b.toNat : Int)).toNat : Int) = _
  have e1 : (BitVec.ofInt 8 (a.toNat : Int)).toNat = a.toNat := by rw [BitVec.ofInt_natCast, BitVec.toNat_ofNat]; exact Nat.mod_eq_of_lt (by omega)
  have e2 : (BitVec.ofInt 8 (b.toNat : Int)).toNat = b.toNat := by rw [BitVec.ofInt_natCast, BitVec.toNat_ofNat]; exact Nat.mod_eq_of_lt (by omega)
  rw [BitVec.toNat_xor, e1, e2, UInt8.toNat_xor]
  simp only [IntKind.wrap, IntKind.bits, IntKind.signed]
  simp
  omega
end Go.Proofs.Ytacogpogplionaa
