/-
  The names that begin so, in order: slices.Sort; a range over maps.Keys.
-/
import Derived.Test.YtmaomebnigcgeaaGreatDoorDkRead
import Derived.Test.YtmaomebnigcgeaaGreatDoorShelf
import Derived.Sort.OwnSorted
import Derived.RangeFuncBox
import Derived.Maps.AppendAt
import Derived.Maps.OwnIn
set_option linter.unusedSimpArgs false
set_option linter.unusedVariables false
namespace Go.Proofs.YtmaomebnigcgeaaGreatDoor
open Go.RowKit Go.Maps Go.Sort Go.Shelf
attribute [local go_sem] Oper.semAt_some

/-- A slice of texts that is the call's own. -/
def OwnS (B : Nat) (w : World) (v : Value) (l : List Nm) : Prop := w.ownsRow B 9 1 v l.length (l.map encStr)

theorem sortN_len (l : List Nm) : (sortN l).length = l.length := (List.mergeSort_perm l _).length_eq


theorem strInfo : (Tryz.prog.info? 9).map (fun i => (i.zero, i.size, i.bytes)) = some (some (.string ⟨#[]⟩), 1, 16) := by kernel_rfl

theorem own_row {w : World} {B : Nat} {v : Value} {l : List Nm} (h : OwnS B w v l) {k : Nat} (hk : v.ownBlock = some k) : ∃ cur, w.heap[k]? = some (.cells cur 9 (0, 0)) := by
  rcases h.2 with ⟨rfl, _⟩ | ⟨g, cap, cur, rfl, _, hg, _⟩
  · cases hk
  · obtain rfl : g = k := Option.some.inj hk
    exact ⟨cur, hg⟩
theorem sortN_perm {a b : List Nm} (h : a.Perm b) : sortN a = sortN b := by
  have tr : ∀ x y z : Nm, decide (x ≤ y) = true → decide (y ≤ z) = true → decide (x ≤ z) = true := fun x y z h1 h2 => decide_eq_true (List.le_trans (of_decide_eq_true h1) (of_decide_eq_true h2))
  have tt : ∀ x y : Nm, (decide (x ≤ y) || decide (y ≤ x)) = true := fun x y => by
    rcases List.le_total x y with h | h
    · rw [decide_eq_true h]; rfl
    · rw [decide_eq_true h, Bool.or_true]
  have s1 := List.pairwise_mergeSort tr tt a
  have s2 := List.pairwise_mergeSort tr tt b
  have hp : (sortN a).Perm (sortN b) := (List.mergeSort_perm a _).trans (h.trans (List.mergeSort_perm b _).symm)
  exact hp.eq_of_pairwise (fun x y _ _ h1 h2 => List.le_antisymm (of_decide_eq_true h1) (of_decide_eq_true h2)) s1 s2

/-- What begins so. -/
def begins (b : Nm) (l : List Nm) : List Nm := l.filter fun x => b.isPrefixOf x



end Go.Proofs.YtmaomebnigcgeaaGreatDoor
