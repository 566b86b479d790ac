/-
  An argument that is a slice of what is done with a disk, as plain data.
-/
import Derived.Test.YthjdkhjdgmnliaaGreatDoorDkPlL
import Derived.Test.YthjdkhjdgmnliaaGreatDoorOpenB
import Derived.Test.YthjdkhjdgmnliaaGreatDoorChecked
import Derived.Deep.Slices
import Derived.Deep.Fields
import Derived.ChangeSame
import Derived.ProofKit
import Derived.OpenShut
namespace Go.Proofs.YthjdkhjdgmnliaaGreatDoor
open Go.RowKit Go.ChangeShapes Go.WideShapes Go.Deep

theorem cellsDo : Tryz.prog.cellsOf 37 = 6 := by kernel_rfl
theorem cellsI : Tryz.prog.cellsOf 3 = 1 := by kernel_rfl
theorem cellsS : Tryz.prog.cellsOf 9 = 1 := by kernel_rfl
theorem cellsLB : Tryz.prog.cellsOf 35 = 1 := by kernel_rfl
theorem wf64 {z : Int} (h : (Lit.int .i64 z).wf = true) : -9223372036854775808 ≤ z ∧ z ≤ 9223372036854775807 := by
  simp [Lit.wf, IntKind.min, IntKind.max, IntKind.signed, IntKind.bits] at h
  omega

section
variable {H : Type} {enc : TypeId × Value → H} {w : World} {base : Nat} {spare : Nat → Bool} {held : Bool}

set_option maxRecDepth 100000 in
theorem dc_of_cells {n : Nat} {cs : List Value} {y : DataW H × List MemPlace} (h : DataW.trod enc Tryz.prog w base spare held n 37 cs = some y) : ∃ r : Dc, r.Ok w ∧ cs = r.cells := by
  obtain ⟨xs, m, _, _, hl, hx, hg⟩ := DataW.trod_struct Tryz.underlying37 h
  rw [cellsDo] at hl
  match cs, hl, xs, hx with
  | [c0, c1, c2, c3, c4, c5], _, [y0, y1, y2, y3, y4, y5], _ =>
    have g0 : DataW.trod enc Tryz.prog w base spare held m 3 [c0] = some y0 := by have := hg 0 _ rfl; simpa [cellsI, cellsS, cellsLB] using this
    have g1 : DataW.trod enc Tryz.prog w base spare held m 9 [c1] = some y1 := by have := hg 1 _ rfl; simpa [cellsI, cellsS, cellsLB] using this
    have g2 : DataW.trod enc Tryz.prog w base spare held m 9 [c2] = some y2 := by have := hg 2 _ rfl; simpa [cellsI, cellsS, cellsLB] using this
    have g3 : DataW.trod enc Tryz.prog w base spare held m 35 [c3] = some y3 := by have := hg 3 _ rfl; simpa [cellsI, cellsS, cellsLB] using this
    have g4 : DataW.trod enc Tryz.prog w base spare held m 3 [c4] = some y4 := by have := hg 4 _ rfl; simpa [cellsI, cellsS, cellsLB] using this
    have g5 : DataW.trod enc Tryz.prog w base spare held m 3 [c5] = some y5 := by have := hg 5 _ rfl; simpa [cellsI, cellsS, cellsLB] using this
    obtain ⟨x0, e0, _, _⟩ := DataW.trod_int Tryz.underlying3 g0
    obtain ⟨x1, e1, _, _⟩ := DataW.trod_string Tryz.underlying9 g1
    obtain ⟨x2, e2, _, _⟩ := DataW.trod_string Tryz.underlying9 g2
    have hsl : ∃ a1 len1 cap1, c3 = .slice a1 len1 cap1 := by
      rcases Go.Deep.open_slice Tryz.underlying35 g3 with ⟨hcs, _⟩ | ⟨a', len', cap', _, _, _, _, hcs, _⟩
      · simp at hcs; exact ⟨_, _, _, hcs⟩
      · simp at hcs; exact ⟨_, _, _, hcs⟩
    obtain ⟨a1, len1, cap1, rfl⟩ := hsl
    obtain ⟨lb, rfl, _, _, hby⟩ := bytes_open g3
    obtain ⟨x4, e4, _, w4⟩ := DataW.trod_int Tryz.underlying3 g4
    obtain ⟨x5, e5, _, _⟩ := DataW.trod_int Tryz.underlying3 g5
    simp at e0 e1 e2 e4 e5
    subst e0 e1 e2 e4 e5
    refine ⟨⟨x0, x1.data.toList, x2.data.toList, a1, lb, cap1, x4, x5⟩, ⟨hby, (wf64 w4).2⟩, ?_⟩
    have h1 : ∀ s : ByteArray, ByteArray.mk s.data.toList.toArray = s := fun s => by rw [Array.toArray_toList]
    simp only [Dc.cells, h1]

theorem list_of {α : Type} {P : Nat → α → Prop} : ∀ (n : Nat), (∀ i, i < n → ∃ r, P i r) → ∃ l : List α, l.length = n ∧ ∀ i (hi : i < l.length), P i l[i]
  | 0, _ => ⟨[], rfl, fun i hi => by simp at hi⟩
  | n + 1, h => by
    obtain ⟨l, hl, hp⟩ := list_of n fun i hi => h i (by omega)
    obtain ⟨r, hr⟩ := h n (by omega)
    refine ⟨l ++ [r], by simp [hl], fun i hi => ?_⟩
    by_cases hin : i < l.length
    · rw [List.getElem_append_left hin]; exact hp i hin
    · have : i = l.length := by simp at hi; omega
      subst this
      rw [List.getElem_concat_length (by rfl)]
      rw [hl]; exact hr

theorem dcs_open {fuel : Nat} {a : Option Addr} {len cap : Nat} {x : DataW H × List MemPlace} (h : DataW.trod enc Tryz.prog w base spare held fuel 22 [.slice a len cap] = some x) :
    ∃ rs : List Dc, rs.length = len ∧ len ≤ maxLen ∧ (∀ r ∈ rs, Dc.Ok w r) ∧ DcsAt w a rs := by
  rcases open_slice Tryz.underlying22 h with ⟨hcs, _⟩ | ⟨a', len', cap', m, n, D, Pl, hcs, _, hl, hm, hmm, _, hi⟩
  · simp at hcs
    obtain ⟨rfl, rfl, rfl⟩ := hcs
    exact ⟨[], rfl, Nat.zero_le _, by simp, fun i hi => by simp at hi⟩
  · simp at hcs
    obtain ⟨rfl, rfl, rfl⟩ := hcs
    have hlm : len ≤ m := by rw [hmm]; split <;> omega
    have each : ∀ i, i < len → ∃ r : Dc, r.Ok w ∧ ∀ j u, r.cells[j]? = some u → w.cell? (a'.add (i * 6 + j)) = some u := by
      intro i hil
      obtain ⟨cs', hc, ht⟩ := hi i (by omega)
      rw [cellsDo] at hc
      obtain ⟨r, hok, rfl⟩ := dc_of_cells ht
      obtain ⟨_, hcl, hat⟩ := World.cells?_some hc
      refine ⟨r, hok, fun j u hj => ?_⟩
      have hj6 : j < 6 := by
        have := (List.getElem?_eq_some_iff.1 hj).1
        simpa [Dc.cells] using this
      rw [← add_add, hat j hj6, hj]
    obtain ⟨rs, hrl, hp⟩ := list_of len each
    refine ⟨rs, hrl, by omega, fun r hr => ?_, fun i hir => ?_⟩
    · obtain ⟨i, hir, rfl⟩ := List.getElem_of_mem hr
      exact (hp i hir).1
    · have h0 := (hp 0 (by omega)).2 0 (.int .i64 (rs[0]'(by omega)).what) rfl
      obtain ⟨b, off, spot⟩ := a'
      have hspot : spot = none := by
        simpa [Addr.add] using World.cell?_spot h0
      subst hspot
      refine ⟨b, off, rfl, fun j u hj => ?_⟩
      have := (hp i hir).2 j u hj
      have e1 : (⟨b, off, none⟩ : Addr).add (i * 6 + j) = ⟨b, off + (i * 6 + j), none⟩ := by unfold Addr.add; split <;> simp_all
      rw [e1] at this
      rw [Nat.add_assoc]
      exact this
end
end Go.Proofs.YthjdkhjdgmnliaaGreatDoor
