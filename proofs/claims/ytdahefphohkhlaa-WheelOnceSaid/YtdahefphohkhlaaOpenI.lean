/-
  An argument that is a slice of numbers, as plain numbers.
-/
import Derived.Test.YtdahefphohkhlaaWhIntL
import Derived.Test.YtdahefphohkhlaaChecked
import Derived.ProofKit
import Derived.OpenShut
namespace Go.Proofs.Ytdahefphohkhlaa
open Go.RowKit Go.ChangeShapes Go.WideShapes

theorem cellsI64 : Try.prog.cellsOf 3 = 1 := by kernel_rfl
theorem intsAt_of_ints {w : World} {x : Addr} {zs : List Int} {len : Nat} (hl : len ≤ zs.length)
    (hcell : ∀ i, i < zs.length → w.cell? (x.add i) = some (.int .i64 (zs.getD i 0))) : IntsAt w (some x) (zs.take len) := by
  intro i hi
  rw [List.length_take] at hi
  have h0 := hcell i (by omega)
  obtain ⟨b, off, spot⟩ := x
  have hspot : spot = none := by simpa [Addr.add] using World.cell?_spot (hcell 0 (by omega))
  subst hspot
  refine ⟨b, off, rfl, ?_⟩
  have e : (⟨b, off, none⟩ : Addr).add i = ⟨b, off + i, none⟩ := by unfold Addr.add; split <;> simp_all
  rw [e] at h0
  rw [h0]
  have hiz : i < zs.length := by omega
  simp only [List.getElem_take, List.getD_eq_getElem?_getD, List.getElem?_eq_getElem hiz, Option.getD_some, ival]
theorem ints_open {H : Type} {enc : TypeId × Value → H} {w : World} {base : Nat} {spare : Nat → Bool} {held : Bool} {fuel : Nat} {a : Option Addr} {len cap : Nat} {x : DataW H × List MemPlace} (h : DataW.trod enc Try.prog w base spare held fuel 22 [.slice a len cap] = some x) :
    ∃ l : List Int, l.length = len ∧ len ≤ cap ∧ cap ≤ maxLen ∧ IntsAt w a l ∧ ∀ n ∈ l, (Lit.int .i64 n).wf = true := by
  rcases open_ints Try.underlying22 Try.underlying3 cellsI64 h with ⟨hcs, _⟩ | ⟨x, l, c, zs, hcs, _, hl, hm, hz, _, hcell, hwz⟩
  · simp at hcs
    obtain ⟨rfl, rfl, rfl⟩ := hcs
    exact ⟨[], rfl, Nat.zero_le _, Nat.zero_le _, fun i hi => absurd hi (Nat.not_lt_zero _), by simp⟩
  · simp at hcs
    obtain ⟨rfl, rfl, rfl⟩ := hcs
    have hlz : len ≤ zs.length := by rw [hz]; split <;> omega
    exact ⟨zs.take len, by rw [List.length_take]; omega, hl, hm, intsAt_of_ints hlz hcell, fun n hn => hwz n (List.mem_of_mem_take hn)⟩
end Go.Proofs.Ytdahefphohkhlaa
