/-
  What is read of a batch's bytes: plain data.
-/
import Derived.Test.YtmaomebnigcgeaaGreatDoorReaderW
import Derived.Test.YtmaomebnigcgeaaGreatDoorBatchW
namespace Go.Proofs.YtmaomebnigcgeaaGreatDoor
open Go.RowKit

/-- What is left, and whether it was bad. -/
abbrev St := List UInt8 × Bool
def numS (s : St) : Nat × St := ((get s.1).1, (s.1.drop (get s.1).2, s.2 || (get s.1).2 == 0))
def textSt (s : St) : List UInt8 × St := (textS s.1, (textRest s.1, textBad s.1 s.2))
def keyOf (f : Nat) (s : St) : List UInt8 × St := if f % 2 = 1 then textSt s else ([], s)
def valOfS (f : Nat) (s : St) : List UInt8 × St := if f / 2 % 2 = 1 then ([], s) else textSt s
def flagS (f : Nat) (s : St) : St := (s.1, s.2 || decide (3 < f))
def mkRec (base : Int) (o t f : Nat) (k v : List UInt8) : Rec := { off := base + o, time := t, keyed := decide (f % 2 = 1), key := ⟨k.toArray⟩, gone := decide (f / 2 % 2 = 1), value := ⟨v.toArray⟩ }
/-- A record at the beginning, and what is left. -/
def decRec (base : Int) (s : St) : Rec × St :=
  let a := numS s
  let b := numS a.2
  let f := numS b.2
  let k := keyOf f.1 (flagS f.1 f.2)
  let v := valOfS f.1 k.2
  (mkRec base a.1 b.1 f.1 k.1 v.1, v.2)
def decRecs (base : Int) : Nat → St → List Rec → List Rec × St
  | 0, s, acc => (acc, s)
  | n + 1, s, acc => if s.2 = true then (acc, s) else decRecs base n (decRec base s).2 (acc ++ [(decRec base s).1])
theorem decRecs_zero (base : Int) (s : St) (acc : List Rec) : decRecs base 0 s acc = (acc, s) := rfl
theorem decRecs_bad {base : Int} {n : Nat} {s : St} {acc : List Rec} (h : s.2 = true) : decRecs base n s acc = (acc, s) := by
  cases n with
  | zero => rfl
  | succ n => rw [decRecs, if_pos h]
theorem decRecs_on {base : Int} {n : Nat} {s : St} {acc : List Rec} (h : s.2 = false) : decRecs base (n + 1) s acc = decRecs base n (decRec base s).2 (acc ++ [(decRec base s).1]) := by
  rw [decRecs, if_neg (by rw [h]; simp)]

/-- All of a batch's parts. -/
structure Parsed where
  base : Nat
  len : Nat
  recs : List Rec
  st : St
def parse (l : List UInt8) : Parsed :=
  let b := numS (l, false)
  let e := numS b.2
  let n := numS e.2
  let r := decRecs b.1 n.1 n.2 []
  { base := b.1, len := e.1, recs := r.1, st := r.2 }
/-- Is it a batch? -/
def Parsed.good (p : Parsed) : Bool := !p.st.2 && p.st.1.isEmpty && decide (checkB p.base ((p.base : Int) + p.len) p.recs = 0)

/-- What is wrong with bytes: 12: they may be longer; 3: they are none; 0: nothing. -/
def decErr (l : List UInt8) : Nat :=
  if l.length < 8 then 12 else if fromB l < 11 ∨ 6000 < fromB l then 3 else if l.length < fromB l then 12
  else if sumOf ((l.take (fromB l)).drop 8) ≠ fromB (l.drop 4) then 3
  else if (parse ((l.take (fromB l)).drop 8)).good = true then 0 else 3

theorem numS_le (s : St) : (numS s).1 ≤ 1099511627776 := get_le s.1
theorem numS_len (s : St) : (numS s).2.1.length ≤ s.1.length := by
  unfold numS
  rw [List.length_drop]
  omega
/-- A number that was none leaves all as it was, and it stays bad. -/
theorem numS_short {s : St} (h : (numS s).2.2 = false) : s.2 = false ∧ (numS s).2.1.length < s.1.length := by
  unfold numS at *
  simp only [Bool.or_eq_false_iff, beq_eq_false_iff_ne, ne_eq] at h
  have := (get_size s.1).1
  rw [List.length_drop]
  exact ⟨h.1, by omega⟩
end Go.Proofs.YtmaomebnigcgeaaGreatDoor
