/-
  Records and batches: plain data, and when a batch may be. Plain Lean, but for the values.
-/
import Derived.Test.YtmaomebnigcgeaaGreatDoorApp
import Derived.Test.YtmaomebnigcgeaaGreatDoorNumL
namespace Go.Proofs.YtmaomebnigcgeaaGreatDoor
open Go.RowKit

structure Rec where
  off : Int
  time : Int
  keyed : Bool
  key : ByteArray
  gone : Bool
  value : ByteArray

def Rec.cells (r : Rec) : List Value := [.int .i64 r.off, .int .i64 r.time, .bool r.keyed, .string r.key, .bool r.gone, .string r.value]
theorem Rec.cells_length (r : Rec) : r.cells.length = 6 := rfl

/-- A record that memory can hold. -/
structure Rec.Ok (r : Rec) : Prop where
  off : -9223372036854775808 ≤ r.off ∧ r.off ≤ 9223372036854775807
  time : -9223372036854775808 ≤ r.time ∧ r.time ≤ 9223372036854775807
  key : r.key.size ≤ maxLen
  value : r.value.size ≤ maxLen

/-- A slice's first cells are these records (nil: there are none). -/
def RecsAt (w : World) (a : Option Addr) (rs : List Rec) : Prop :=
  ∀ i (h : i < rs.length), ∃ b off, a = some ⟨b, off, none⟩ ∧ ∀ j u, rs[i].cells[j]? = some u → w.cell? ⟨b, off + i * 6 + j, none⟩ = some u

theorem RecsAt.chg {S : Nat → Prop} {w w' : World} (h : Chg S w w') {a : Option Addr} {rs : List Rec} (hb : RecsAt w a rs) (hn : ∀ x, a = some x → ¬ S x.block) : RecsAt w' a rs := by
  intro i hi
  obtain ⟨b, off, ha, hc⟩ := hb i hi
  exact ⟨b, off, ha, fun j u hj => h.cell (hc j u hj) (show ¬ S b from hn ⟨b, off, none⟩ ha)⟩

/-- A block that begins with these cells. -/
def BoxAt (w : World) (g : Nat) (cs : List Value) : Prop := ∀ j u, cs[j]? = some u → w.cell? ⟨g, j, none⟩ = some u
theorem BoxAt.new (w : World) (cs : List Value) (t : TypeId) : BoxAt (w.alloc (.cells cs.toArray t)) w.heap.size cs := by
  intro j u hj
  rw [cell_of_row _ w.heap.size j cs.toArray t (0, 0) (heap_alloc_new w _)]
  simpa using hj
theorem BoxAt.chg {S : Nat → Prop} {w w' : World} {g : Nat} {cs : List Value} (h : BoxAt w g cs) (hg : Chg S w w') (hn : ¬ S g) : BoxAt w' g cs :=
  fun j u hj => hg.cell (h j u hj) hn

/-- What is wrong with records, behind one at 'last': 0: nothing; 1: ErrArg; 2: ErrRange; 4: ErrLimit. -/
def badArg (last en : Int) (r : Rec) : Bool := decide (r.off ≤ last) || decide (en ≤ r.off) || (!r.keyed && !(r.key.toList.isEmpty)) || (r.gone && !(r.value.toList.isEmpty))
def badLen (r : Rec) : Bool := decide (60 < r.key.size) || decide (500 < r.value.size)
def badTime (r : Rec) : Bool := decide (r.time < 0) || decide (1099511627776 < r.time)
def checkRecs (en : Int) : Int → List Rec → Nat
  | _, [] => 0
  | last, r :: rs => if badArg last en r = true then 1 else if badLen r = true then 4 else if badTime r = true then 2 else checkRecs en r.off rs
def checkB (base en : Int) (rs : List Rec) : Nat :=
  if base < 0 ∨ 1099511627776 < en then 2 else if en ≤ base then 1 else if 50 < rs.length ∨ 50 < en - base then 4 else checkRecs en (base - 1) rs

/-- An error's value. -/
def errV (t : TypeId) (k : Nat) : Value := if k = 0 then .nilIface else .iface t (.int .i64 (k : Int))
end Go.Proofs.YtmaomebnigcgeaaGreatDoor
