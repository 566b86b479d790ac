/-
  An argument that is a slice of turns, as plain turns.
-/
import Derived.Test.YtdahefphohkhlaaDoorWhPlayM
import Derived.Test.YtdahefphohkhlaaDoorRecL
import Derived.Test.YtdahefphohkhlaaDoorChecked
import Derived.Deep.Slices
import Derived.Deep.Fields
import Derived.ChangeSame
import Derived.ProofKit
import Derived.OpenShut
namespace Go.Proofs.YtdahefphohkhlaaDoor
open Go.RowKit Go.ChangeShapes Go.WideShapes Go.Deep

theorem cellsT : Tryd.prog.cellsOf 31 = 3 := by kernel_rfl
theorem cellsI : Tryd.prog.cellsOf 3 = 1 := by kernel_rfl

section
variable {H : Type} {enc : TypeId × Value → H} {w : World} {base : Nat} {spare : Nat → Bool} {held : Bool}

set_option maxRecDepth 100000 in
theorem turn_of_cells {n : Nat} {cs : List Value} {y : DataW H × List MemPlace} (h : DataW.trod enc Tryd.prog w base spare held n 31 cs = some y) : ∃ r : Tu, r.Ok ∧ cs = r.cells := by
  obtain ⟨xs, m, _, _, hl, hx, hg⟩ := DataW.trod_struct Tryd.underlying31 h
  rw [cellsT] at hl
  match cs, hl, xs, hx with
  | [c0, c1, c2], _, [y0, y1, y2], _ =>
    have g0 : DataW.trod enc Tryd.prog w base spare held m 3 [c0] = some y0 := by have := hg 0 _ rfl; simpa [cellsI] using this
    have g1 : DataW.trod enc Tryd.prog w base spare held m 3 [c1] = some y1 := by have := hg 1 _ rfl; simpa [cellsI] using this
    have g2 : DataW.trod enc Tryd.prog w base spare held m 3 [c2] = some y2 := by have := hg 2 _ rfl; simpa [cellsI] using this
    obtain ⟨o, e0, _, w0⟩ := DataW.trod_int Tryd.underlying3 g0
    obtain ⟨t, e1, _, w1⟩ := DataW.trod_int Tryd.underlying3 g1
    obtain ⟨k, e2, _, w2⟩ := DataW.trod_int Tryd.underlying3 g2
    simp at e0 e1 e2
    subst e0 e1 e2
    exact ⟨⟨o, t, k⟩, ⟨w0, w1, w2⟩, rfl⟩

theorem list_of {α : Type} {P : Nat → α → Prop} : ∀ (n : Nat), (∀ i, i < n → ∃ r, P i r) → ∃ l : List α, l.length = n ∧ ∀ i (hi : i < l.length), P i l[i]
  | 0, _ => ⟨[], rfl, fun i hi => by simp at hi⟩
  | n + 1, h => by
    obtain ⟨l, hl, hp⟩ := list_of n fun i hi => h i (by omega)
    obtain ⟨r, hr⟩ := h n (by omega)
    refine ⟨l ++ [r], by simp [hl], fun i hi => ?_⟩
    by_cases hin : i < l.length
    · rw [List.getElem_append_left hin]; exact hp i hin
    · have : i = l.length := by simp at hi; omega
      subst this
      rw [List.getElem_concat_length (by rfl)]
      rw [hl]; exact hr

theorem turns_open {fuel : Nat} {a : Option Addr} {len cap : Nat} {x : DataW H × List MemPlace} (h : DataW.trod enc Tryd.prog w base spare held fuel 22 [.slice a len cap] = some x) :
    ∃ rs : List Tu, rs.length = len ∧ len ≤ maxLen ∧ (∀ r ∈ rs, Tu.Ok r) ∧ TusAt w a rs := by
  rcases open_slice Tryd.underlying22 h with ⟨hcs, _⟩ | ⟨a', len', cap', m, n, D, Pl, hcs, _, hl, hm, hmm, _, hi⟩
  · simp at hcs
    obtain ⟨rfl, rfl, rfl⟩ := hcs
    exact ⟨[], rfl, Nat.zero_le _, by simp, fun i hi => by simp at hi⟩
  · simp at hcs
    obtain ⟨rfl, rfl, rfl⟩ := hcs
    have hlm : len ≤ m := by rw [hmm]; split <;> omega
    have each : ∀ i, i < len → ∃ r : Tu, r.Ok ∧ ∀ j u, r.cells[j]? = some u → w.cell? (a'.add (i * 3 + j)) = some u := by
      intro i hil
      obtain ⟨cs', hc, ht⟩ := hi i (by omega)
      rw [cellsT] at hc
      obtain ⟨r, hok, rfl⟩ := turn_of_cells ht
      obtain ⟨_, hcl, hat⟩ := World.cells?_some hc
      refine ⟨r, hok, fun j u hj => ?_⟩
      have hj6 : j < 3 := by
        have := (List.getElem?_eq_some_iff.1 hj).1
        simpa [Tu.cells] using this
      rw [← add_add, hat j hj6, hj]
    obtain ⟨rs, hrl, hp⟩ := list_of len each
    refine ⟨rs, hrl, by omega, fun r hr => ?_, fun i hir => ?_⟩
    · obtain ⟨i, hir, rfl⟩ := List.getElem_of_mem hr
      exact (hp i hir).1
    · have h0 := (hp 0 (by omega)).2 0 (.int .i64 (rs[0]'(by omega)).what) rfl
      obtain ⟨b, off, spot⟩ := a'
      have hspot : spot = none := by
        simpa [Addr.add] using World.cell?_spot h0
      subst hspot
      refine ⟨b, off, rfl, fun j u hj => ?_⟩
      have := (hp i hir).2 j u hj
      have e1 : (⟨b, off, none⟩ : Addr).add (i * 3 + j) = ⟨b, off + (i * 3 + j), none⟩ := by unfold Addr.add; split <;> simp_all
      rw [e1] at this
      rw [Nat.add_assoc]
      exact this
end
end Go.Proofs.YtdahefphohkhlaaDoor
