/- What a disk holds, and what each of its calls makes of that: plain functions, no program in sight. No condition. -/
import Derived.Test.YtacogpogplionaaMapInt
namespace Go.Proofs.Ytacogpogplionaa.DK
set_option maxRecDepth 100000
open Go.RowKit Go.Proofs.Ytacogpogplionaa.MI
set_option linter.unusedVariables false

/-- A sector that waits or lasts: its node, its place, its number, its bytes. -/
structure Wr where
  n : Int
  a : Int
  s : Int
  d : ByteArray
def wval (x : Wr) : List Value := [.int .i64 x.n, .int .i64 x.a, .int .i64 x.s, .string x.d]
def wagg (x : Wr) : Value := .agg #[.int .i64 x.n, .int .i64 x.a, .int .i64 x.s, .string x.d]
def wdec : Value → Option Wr
  | .agg cs => match cs.toList with
    | [.int .i64 n, .int .i64 a, .int .i64 s, .string d] => some ⟨n, a, s, d⟩
    | _ => none
  | _ => none
def wcode : Codec Wr := ⟨wagg, wdec, fun c => by cases c; rfl, fun v c h => by
  unfold wdec at h
  split at h
  · rename_i cs
    split at h
    · rename_i n a s d he
      injection h with h
      subst h
      unfold wagg
      congr 1
      apply Array.ext'
      simpa using he
    · cases h
  · cases h⟩
def sdec : Value → Option ByteArray
  | .string d => some d
  | _ => none
def scode : Codec ByteArray := ⟨Value.string, sdec, fun _ => rfl, fun v c h => by
  cases v <;> simp [sdec] at h
  rw [h]⟩
theorem wval_len (x : Wr) : (wval x).length = 4 := rfl
abbrev wr0 : Wr := ⟨0, 0, 0, ByteArray.mk #[]⟩

def updF {α : Type} (f : Int → α) (i : Int) (v : α) : Int → α := fun j => if j = i then v else f j
theorem updF_same {α : Type} (f : Int → α) (i : Int) (v : α) : updF f i v i = v := by simp [updF]
theorem updF_other {α : Type} (f : Int → α) {i j : Int} (v : α) (h : j ≠ i) : updF f i v j = f j := by simp [updF, h]

structure Dk where
  room : Nat
  on : Bool
  seq : Nat
  now : Int → Option ByteArray
  lasts : Int → Option Wr
  waits : List Wr
  table : Int → Int
  words : Int → Int
  last : Int
  armed : Bool
  left : Int
  stays : List Int

def newK (n : Nat) : Dk := ⟨n, true, 0, fun _ => none, fun _ => none, [], fun _ => 0, fun _ => 0, 0, false, 0, []⟩
/-- Is a number odd, as a machine tells it? -/
def oddB (x : Int) : Bool := bits BinOp.and IntKind.i64 x 1 == 1
def inNode (n : Int) : Bool := decide (0 ≤ n) && decide (n ≤ 16)
def mayK (D : Dk) (n : Int) : Int := if D.on then (if inNode n then 0 else 1) else 14
def admK (D : Dk) (n e : Int) : Int := if e == 0 || !(D.table n == e) then 34 else 0
def thereK (D : Dk) (a n : Int) : Bool := decide (0 ≤ a) && decide (a ≤ (D.room : Int)) && decide (n ≤ (D.room : Int) - a)
def armK (D : Dk) (n : Int) (keep : List Int) : Dk := { D with armed := decide (0 ≤ n), left := n, stays := keep }
/-- A write lasts, if it is the latest one. -/
def keepL (L : Int → Option Wr) (w : Wr) : Int → Option Wr := if ((L w.a).getD wr0).s < w.s then putF L w.a w else L
def staysB (keep : List Int) (i : Nat) : Bool := decide (i < keep.length) && oddB (keep.getD i 0)
/-- What lasts behind a cut of power, of the first k that waited. -/
def cutL (L : Int → Option Wr) (ws : List Wr) (keep : List Int) : Nat → Int → Option Wr
  | 0 => L
  | k + 1 => if staysB keep k then keepL (cutL L ws keep k) (ws.getD k wr0) else cutL L ws keep k
def offK (D : Dk) : Dk := { D with armed := false, left := -1, stays := [] }
def dataOf (L : Int → Option Wr) : Int → Option ByteArray := fun x => (L x).map Wr.d
def cutK (D : Dk) (keep : List Int) : Dk :=
  if D.on then { D with on := false, lasts := cutL D.lasts D.waits keep D.waits.length, now := dataOf (cutL D.lasts D.waits keep D.waits.length), waits := [], armed := false, left := -1, stays := [] } else offK D
def cutN (D : Dk) : Nat := if D.on then D.waits.length else 0
/-- A call that would be done: does the power go? -/
def goesB (D : Dk) : Bool := D.armed && !decide (0 < D.left)
def goesK (D : Dk) : Dk := if D.armed then (if 0 < D.left then { D with left := D.left - 1 } else cutK D D.stays) else D
/-- What lasts behind a barrier of a node, of the first k that waited. -/
def setL (L : Int → Option Wr) (ws : List Wr) (n : Int) : Nat → Int → Option Wr
  | 0 => L
  | k + 1 => if (ws.getD k wr0).n = n then keepL (setL L ws n k) (ws.getD k wr0) else setL L ws n k
def settleK (D : Dk) (n : Int) : Dk := { D with lasts := setL D.lasts D.waits n D.waits.length, waits := D.waits.filter fun x => !decide (x.n = n) }
/-- One sector of many. -/
def sect (b : ByteArray) (i : Nat) : ByteArray := b.extract (i * 64) ((i + 1) * 64)
def oneW (D : Dk) (n a : Int) (b : ByteArray) : Wr := ⟨n, a, (D.seq : Int) + 1, b⟩
def oneK (D : Dk) (n a : Int) (b : ByteArray) : Dk := { D with seq := D.seq + 1, now := putF D.now a b, waits := D.waits ++ [oneW D n a b] }
def manyK (D : Dk) (n a : Int) (b : ByteArray) : Nat → Dk
  | 0 => D
  | k + 1 => oneK (manyK D n a b k) n (a + (k : Int)) (sect b k)
def argB (b : ByteArray) : Bool := decide (64 ≤ b.size) && decide (b.size / 64 ≤ 16) && decide (b.size % 64 = 0)
def writeE (D : Dk) (n e a : Int) (b : ByteArray) : Int :=
  if mayK D n = 0 then (if argB b then (if admK D n e = 0 then (if thereK D a ((b.size / 64 : Nat) : Int) then (if goesB D then 14 else 0) else 30) else 34) else 1) else mayK D n
def writeK (D : Dk) (n e a : Int) (b : ByteArray) : Dk :=
  if mayK D n = 0 ∧ argB b = true ∧ admK D n e = 0 ∧ thereK D a ((b.size / 64 : Nat) : Int) = true then (if goesB D then goesK D else manyK (goesK D) n a b (b.size / 64)) else D
def zsec : ByteArray := ⟨(List.replicate 64 (0 : UInt8)).toArray⟩
def readS (D : Dk) (a : Int) : Nat → List UInt8
  | 0 => []
  | k + 1 => readS D a k ++ ((D.now (a + (k : Int))).getD zsec).data.toList
def readB (D : Dk) (a n : Int) : Bool := decide (1 ≤ n) && decide (n ≤ 400) && thereK D a n
def readE (D : Dk) (a n : Int) : Int := if D.on then (if readB D a n then 0 else 30) else 14
def readT (D : Dk) (a n : Int) : ByteArray := if readE D a n = 0 then ⟨(readS D a n.toNat).toArray⟩ else ⟨#[]⟩
def barrierE (D : Dk) (n e : Int) : Int := if mayK D n = 0 then (if admK D n e = 0 then (if goesB D then 14 else 0) else 34) else mayK D n
def barrierK (D : Dk) (n e : Int) : Dk := if mayK D n = 0 ∧ admK D n e = 0 then (if goesB D then goesK D else settleK (goesK D) n) else D
def admitE (D : Dk) (n e : Int) : Int := if mayK D n = 0 then (if e ≤ D.last then 8 else (if goesB D then 14 else 0)) else mayK D n
def admitK (D : Dk) (n e : Int) : Dk := if mayK D n = 0 ∧ ¬ e ≤ D.last then (if goesB D then goesK D else { goesK D with table := updF (goesK D).table n e, last := e }) else D
def fenceE (D : Dk) (n : Int) : Int := if mayK D n = 0 then (if goesB D then 14 else 0) else mayK D n
def fenceK (D : Dk) (n : Int) : Dk := if mayK D n = 0 then (if goesB D then goesK D else { settleK (goesK D) n with table := updF (goesK D).table n 0 }) else D
def putK (D : Dk) (n v : Int) : Dk := if mayK D n = 0 then (if goesB D then goesK D else { goesK D with words := updF (goesK D).words n v }) else D
def epochK (D : Dk) (n : Int) : Int := if inNode n then D.table n else 0
def wordK (D : Dk) (n : Int) : Int := if inNode n then D.words n else 0
def restoreK (D : Dk) : Dk := if 0 < D.room then { D with on := true } else D
def waitingK (D : Dk) (n : Int) : Nat := if D.on then (D.waits.filter fun x => decide (x.n = n)).length else 0

/-- What each disk that a call made keeps to. -/
structure Sane (D : Dk) : Prop where
  room : D.room ≤ 20000
  now : ∀ x s, D.now x = some s → s.size = 64
  lasts : ∀ x r, D.lasts x = some r → r.d.size = 64
  waits : ∀ r ∈ D.waits, r.d.size = 64 ∧ 0 ≤ r.a ∧ r.a < 20000
  left : D.left ≤ 9223372036854775807
theorem sane_new (n : Nat) (h : n ≤ 20000) : Sane (newK n) := ⟨h, fun _ _ h => (by cases h), fun _ _ h => (by cases h), fun r h => (by cases h), by show (0 : Int) ≤ _; decide⟩
theorem keepL_size {L : Int → Option Wr} {w : Wr} (hL : ∀ x r, L x = some r → r.d.size = 64) (hw : w.d.size = 64) : ∀ x r, keepL L w x = some r → r.d.size = 64 := by
  intro x r h
  unfold keepL at h
  split at h
  · by_cases hx : x = w.a
    · subst hx; rw [putF_same] at h; injection h with h; subst h; exact hw
    · rw [putF_other _ _ hx] at h; exact hL x r h
  · exact hL x r h
theorem getD_mem {ws : List Wr} {k : Nat} (h : k < ws.length) : ws.getD k wr0 ∈ ws := by rw [List.getD_eq_getElem?_getD, List.getElem?_eq_getElem h]; exact List.getElem_mem h
theorem cutL_size {L : Int → Option Wr} {ws : List Wr} {keep : List Int} (hL : ∀ x r, L x = some r → r.d.size = 64) (hw : ∀ r ∈ ws, r.d.size = 64) : ∀ k, k ≤ ws.length → ∀ x r, cutL L ws keep k x = some r → r.d.size = 64
  | 0, _ => hL
  | k + 1, hk => by
    unfold cutL
    split
    · exact keepL_size (cutL_size hL hw k (by omega)) (hw _ (getD_mem (by omega)))
    · exact cutL_size hL hw k (by omega)
theorem setL_size {L : Int → Option Wr} {ws : List Wr} {n : Int} (hL : ∀ x r, L x = some r → r.d.size = 64) (hw : ∀ r ∈ ws, r.d.size = 64) : ∀ k, k ≤ ws.length → ∀ x r, setL L ws n k x = some r → r.d.size = 64
  | 0, _ => hL
  | k + 1, hk => by
    unfold setL
    split
    · exact keepL_size (setL_size hL hw k (by omega)) (hw _ (getD_mem (by omega)))
    · exact setL_size hL hw k (by omega)
theorem Sane.cut {D : Dk} (h : Sane D) (keep : List Int) : Sane (cutK D keep) := by
  unfold cutK
  split
  · have hc := cutL_size (keep := keep) h.lasts (fun r hr => (h.waits r hr).1) _ (Nat.le_refl _)
    exact ⟨h.room, fun x s hs => by
      unfold dataOf at hs
      dsimp only at hs
      cases hl : cutL D.lasts D.waits keep D.waits.length x with
      | none => rw [hl] at hs; cases hs
      | some r => rw [hl] at hs; injection hs with hs; subst hs; exact hc x r hl, hc, fun r hr => (by cases hr), by show (-1 : Int) ≤ _; decide⟩
  · exact ⟨h.room, h.now, h.lasts, h.waits, by show (-1 : Int) ≤ _; decide⟩
theorem Sane.goes {D : Dk} (h : Sane D) : Sane (goesK D) := by
  unfold goesK
  split
  · split
    · exact ⟨h.room, h.now, h.lasts, h.waits, by have := h.left; show D.left - 1 ≤ _; omega⟩
    · exact h.cut _
  · exact h
theorem Sane.settle {D : Dk} (h : Sane D) (n : Int) : Sane (settleK D n) :=
  ⟨h.room, h.now, setL_size h.lasts (fun r hr => (h.waits r hr).1) _ (Nat.le_refl _), fun r hr => h.waits r (List.mem_filter.1 hr).1, h.left⟩
theorem Sane.one {D : Dk} (h : Sane D) (n a : Int) (b : ByteArray) (hb : b.size = 64) (ha : 0 ≤ a ∧ a < 20000) : Sane (oneK D n a b) := by
  refine ⟨h.room, fun x s hs => ?_, h.lasts, fun r hr => ?_, h.left⟩
  · unfold oneK at hs
    dsimp only at hs
    by_cases hx : x = a
    · subst hx; rw [putF_same] at hs; injection hs with hs; subst hs; exact hb
    · rw [putF_other _ _ hx] at hs; exact h.now x s hs
  · unfold oneK at hr
    dsimp only at hr
    rcases List.mem_append.1 hr with hr | hr
    · exact h.waits r hr
    · simp at hr; subst hr; exact ⟨hb, ha⟩
theorem sect_size {b : ByteArray} {k : Nat} (h : (k + 1) * 64 ≤ b.size) : (sect b k).size = 64 := by unfold sect; rw [ByteArray.size_extract]; omega
theorem goes_room (D : Dk) : (goesK D).room = D.room := by
  unfold goesK cutK offK
  split
  · split
    · rfl
    · split <;> rfl
  · rfl
end Go.Proofs.Ytacogpogplionaa.DK
