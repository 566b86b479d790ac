/-
  An argument that is a slice of bytes, as plain bytes.
-/
import Derived.Test.YthjdkhjdgmnliaaGreatDoorBase
import Derived.Test.YthjdkhjdgmnliaaGreatDoorChecked
import Derived.ProofKit
import Derived.OpenShut
namespace Go.Proofs.YthjdkhjdgmnliaaGreatDoor
open Go.RowKit Go.ChangeShapes Go.WideShapes

theorem cellsU8 : Tryz.prog.cellsOf 5 = 1 := by kernel_rfl
theorem bytes_open {H : Type} {enc : TypeId × Value → H} {w : World} {base : Nat} {spare : Nat → Bool} {held : Bool} {fuel : Nat} {a : Option Addr} {len cap : Nat} {x : DataW H × List MemPlace} (h : DataW.trod enc Tryz.prog w base spare held fuel 35 [.slice a len cap] = some x) :
    ∃ l : List UInt8, l.length = len ∧ len ≤ cap ∧ cap ≤ maxLen ∧ BytesAt w a l := by
  rcases open_ints Tryz.underlying35 Tryz.underlying5 cellsU8 h with ⟨hcs, _⟩ | ⟨x, l, c, zs, hcs, _, hl, hm, hz, _, hcell, hwz⟩
  · simp at hcs
    obtain ⟨rfl, rfl, rfl⟩ := hcs
    exact ⟨[], rfl, Nat.zero_le _, Nat.zero_le _, fun i hi => absurd hi (Nat.not_lt_zero _)⟩
  · simp at hcs
    obtain ⟨rfl, rfl, rfl⟩ := hcs
    have hlz : len ≤ zs.length := by rw [hz]; split <;> omega
    exact ⟨(bytesOf zs).take len, by rw [List.length_take, bytesOf_length]; omega, hl, hm, bytesAt_of_ints hlz hcell hwz⟩
end Go.Proofs.YthjdkhjdgmnliaaGreatDoor
