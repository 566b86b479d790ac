/-
  An argument that is a slice of records, as plain records.
-/
import Derived.Test.YtmaomebnigcgeaaGreatDoorPl07
import Derived.Test.YtmaomebnigcgeaaGreatDoorChecked
import Derived.Deep.Slices
import Derived.Deep.Fields
import Derived.ChangeSame
import Derived.ProofKit
import Derived.OpenShut
import Derived.Test.YtmaomebnigcgeaaGreatDoorPl42
import Derived.Test.YtmaomebnigcgeaaGreatDoorPl47
namespace Go.Proofs.YtmaomebnigcgeaaGreatDoor
open Go.RowKit Go.ChangeShapes Go.WideShapes Go.Deep

theorem cellsR : Tryz.prog.cellsOf 55 = 6 := by kernel_rfl
theorem cellsI : Tryz.prog.cellsOf 3 = 1 := by kernel_rfl
theorem cellsB : Tryz.prog.cellsOf 4 = 1 := by kernel_rfl
theorem cellsS : Tryz.prog.cellsOf 9 = 1 := by kernel_rfl

theorem wf64 {n : Int} (h : (Lit.int .i64 n).wf = true) : -9223372036854775808 ≤ n ∧ n ≤ 9223372036854775807 := by
  simp [Lit.wf, IntKind.min, IntKind.max, IntKind.signed, IntKind.bits] at h
  omega

section
variable {H : Type} {enc : TypeId × Value → H} {w : World} {base : Nat} {spare : Nat → Bool} {held : Bool}

set_option maxRecDepth 100000 in
theorem rec_of_cells {n : Nat} {cs : List Value} {y : DataW H × List MemPlace} (h : DataW.trod enc Tryz.prog w base spare held n 55 cs = some y) : ∃ r : Rec, r.Ok ∧ cs = r.cells := by
  obtain ⟨xs, m, _, _, hl, hx, hg⟩ := DataW.trod_struct Tryz.underlying55 h
  rw [cellsR] at hl
  match cs, hl, xs, hx with
  | [c0, c1, c2, c3, c4, c5], _, [y0, y1, y2, y3, y4, y5], _ =>
    have g0 : DataW.trod enc Tryz.prog w base spare held m 3 [c0] = some y0 := by have := hg 0 _ rfl; simpa [cellsI, cellsB, cellsS] using this
    have g1 : DataW.trod enc Tryz.prog w base spare held m 3 [c1] = some y1 := by have := hg 1 _ rfl; simpa [cellsI, cellsB, cellsS] using this
    have g2 : DataW.trod enc Tryz.prog w base spare held m 4 [c2] = some y2 := by have := hg 2 _ rfl; simpa [cellsI, cellsB, cellsS] using this
    have g3 : DataW.trod enc Tryz.prog w base spare held m 9 [c3] = some y3 := by have := hg 3 _ rfl; simpa [cellsI, cellsB, cellsS] using this
    have g4 : DataW.trod enc Tryz.prog w base spare held m 4 [c4] = some y4 := by have := hg 4 _ rfl; simpa [cellsI, cellsB, cellsS] using this
    have g5 : DataW.trod enc Tryz.prog w base spare held m 9 [c5] = some y5 := by have := hg 5 _ rfl; simpa [cellsI, cellsB, cellsS] using this
    obtain ⟨o, e0, _, w0⟩ := DataW.trod_int Tryz.underlying3 g0
    obtain ⟨t, e1, _, w1⟩ := DataW.trod_int Tryz.underlying3 g1
    obtain ⟨k, e2, _⟩ := DataW.trod_bool Tryz.underlying4 g2
    obtain ⟨key, e3, _, w3⟩ := DataW.trod_string Tryz.underlying9 g3
    obtain ⟨g, e4, _⟩ := DataW.trod_bool Tryz.underlying4 g4
    obtain ⟨v, e5, _, w5⟩ := DataW.trod_string Tryz.underlying9 g5
    simp at e0 e1 e2 e3 e4 e5
    subst e0 e1 e2 e3 e4 e5
    exact ⟨⟨o, t, k, key, g, v⟩, ⟨wf64 w0, wf64 w1, w3, w5⟩, rfl⟩

theorem list_of {α : Type} {P : Nat → α → Prop} : ∀ (n : Nat), (∀ i, i < n → ∃ r, P i r) → ∃ l : List α, l.length = n ∧ ∀ i (hi : i < l.length), P i l[i]
  | 0, _ => ⟨[], rfl, fun i hi => by simp at hi⟩
  | n + 1, h => by
    obtain ⟨l, hl, hp⟩ := list_of n fun i hi => h i (by omega)
    obtain ⟨r, hr⟩ := h n (by omega)
    refine ⟨l ++ [r], by simp [hl], fun i hi => ?_⟩
    by_cases hin : i < l.length
    · rw [List.getElem_append_left hin]; exact hp i hin
    · have : i = l.length := by simp at hi; omega
      subst this
      rw [List.getElem_concat_length (by rfl)]
      rw [hl]; exact hr

theorem recs_open {fuel : Nat} {a : Option Addr} {len cap : Nat} {x : DataW H × List MemPlace} (h : DataW.trod enc Tryz.prog w base spare held fuel 39 [.slice a len cap] = some x) :
    ∃ rs : List Rec, rs.length = len ∧ len ≤ maxLen ∧ (∀ r ∈ rs, r.Ok) ∧ RecsAt w a rs := by
  rcases open_slice Tryz.underlying39 h with ⟨hcs, _⟩ | ⟨a', len', cap', m, n, D, Pl, hcs, _, hl, hm, hmm, _, hi⟩
  · simp at hcs
    obtain ⟨rfl, rfl, rfl⟩ := hcs
    exact ⟨[], rfl, Nat.zero_le _, by simp, fun i hi => by simp at hi⟩
  · simp at hcs
    obtain ⟨rfl, rfl, rfl⟩ := hcs
    have hlm : len ≤ m := by rw [hmm]; split <;> omega
    have each : ∀ i, i < len → ∃ r : Rec, r.Ok ∧ ∀ j u, r.cells[j]? = some u → w.cell? (a'.add (i * 6 + j)) = some u := by
      intro i hil
      obtain ⟨cs', hc, ht⟩ := hi i (by omega)
      rw [cellsR] at hc
      obtain ⟨r, hok, rfl⟩ := rec_of_cells ht
      obtain ⟨_, hcl, hat⟩ := World.cells?_some hc
      refine ⟨r, hok, fun j u hj => ?_⟩
      have hj6 : j < 6 := by
        have := (List.getElem?_eq_some_iff.1 hj).1
        simpa [Rec.cells] using this
      rw [← add_add, hat j hj6, hj]
    obtain ⟨rs, hrl, hp⟩ := list_of len each
    refine ⟨rs, hrl, by omega, fun r hr => ?_, fun i hir => ?_⟩
    · obtain ⟨i, hir, rfl⟩ := List.getElem_of_mem hr
      exact (hp i hir).1
    · have h0 := (hp 0 (by omega)).2 0 (.int .i64 (rs[0]'(by omega)).off) rfl
      obtain ⟨b, off, spot⟩ := a'
      have hspot : spot = none := by
        simpa [Addr.add] using World.cell?_spot h0
      subst hspot
      refine ⟨b, off, rfl, fun j u hj => ?_⟩
      have := (hp i hir).2 j u hj
      have e1 : (⟨b, off, none⟩ : Addr).add (i * 6 + j) = ⟨b, off + (i * 6 + j), none⟩ := by unfold Addr.add; split <;> simp_all
      rw [e1] at this
      rw [Nat.add_assoc]
      exact this
end
end Go.Proofs.YtmaomebnigcgeaaGreatDoor

/-
  Arguments of the segments' laws as plain data: a slice of parts, a slice of slices of records.
-/
set_option linter.unusedSimpArgs false
set_option linter.unusedVariables false
namespace Go.Proofs.YtmaomebnigcgeaaGreatDoor
open Go.RowKit Go.ChangeShapes Go.WideShapes Go.Deep

theorem cellsPt : Tryz.prog.cellsOf 43 = 6 := by kernel_rfl
theorem cellsBt : Tryz.prog.cellsOf 41 = 3 := by kernel_rfl
theorem cellsRs : Tryz.prog.cellsOf 39 = 1 := by kernel_rfl

section
variable {H : Type} {enc : TypeId × Value → H} {w : World} {base : Nat} {spare : Nat → Bool} {held : Bool}

theorem slice_form {n : Nat} {c : Value} {y : DataW H × List MemPlace} (h : DataW.trod enc Tryz.prog w base spare held n 39 [c] = some y) : ∃ a l k, c = .slice a l k := by
  rcases Go.Deep.open_slice Tryz.underlying39 h with ⟨hcs, _⟩ | ⟨a', len', cap', _, _, _, _, hcs, _⟩
  · simp at hcs; exact ⟨_, _, _, hcs⟩
  · simp at hcs; exact ⟨_, _, _, hcs⟩

set_option maxRecDepth 100000 in
theorem bat_of_cells {n : Nat} {cs : List Value} {y : DataW H × List MemPlace} (h : DataW.trod enc Tryz.prog w base spare held n 41 cs = some y) : ∃ (b : Bt) (ra : Option Addr) (rc : Nat), cs = [.int .i64 b.base, .int .i64 b.en, .slice ra b.rs.length rc] ∧ RecsAt w ra b.rs ∧ (∀ r ∈ b.rs, Rec.Ok r) ∧ (-9223372036854775808 ≤ b.base ∧ b.base ≤ 9223372036854775807) ∧ (-9223372036854775808 ≤ b.en ∧ b.en ≤ 9223372036854775807) ∧ b.rs.length ≤ maxLen := by
  obtain ⟨xs, m, _, _, hl, hx, hg⟩ := DataW.trod_struct Tryz.underlying41 h
  rw [cellsBt] at hl
  match cs, hl, xs, hx with
  | [c0, c1, c2], _, [y0, y1, y2], _ =>
    have g0 : DataW.trod enc Tryz.prog w base spare held m 3 [c0] = some y0 := by have := hg 0 _ rfl; simpa [cellsI, cellsRs] using this
    have g1 : DataW.trod enc Tryz.prog w base spare held m 3 [c1] = some y1 := by have := hg 1 _ rfl; simpa [cellsI, cellsRs] using this
    have g2 : DataW.trod enc Tryz.prog w base spare held m 39 [c2] = some y2 := by have := hg 2 _ rfl; simpa [cellsI, cellsRs] using this
    obtain ⟨x0, e0, _, w0⟩ := DataW.trod_int Tryz.underlying3 g0
    obtain ⟨x1, e1, _, w1⟩ := DataW.trod_int Tryz.underlying3 g1
    obtain ⟨ra, rn, rc, rfl⟩ := slice_form g2
    obtain ⟨rs, rfl, hm, hok, hat⟩ := recs_open g2
    simp at e0 e1
    subst e0 e1
    exact ⟨⟨x0, x1, rs⟩, ra, rc, rfl, hat, hok, wf64 w0, wf64 w1, hm⟩

set_option maxRecDepth 100000 in
theorem pt_of_cells {n : Nat} {cs : List Value} {y : DataW H × List MemPlace} (h : DataW.trod enc Tryz.prog w base spare held n 43 cs = some y) : ∃ r : Pt, r.Ok w ∧ cs = r.cells := by
  obtain ⟨xs, m, _, _, hl, hx, hg⟩ := DataW.trod_struct Tryz.underlying43 h
  rw [cellsPt] at hl
  match cs, hl, xs, hx with
  | [c0, c1, c2, c3, c4, c5], _, [y0, y1, y2, y3], _ =>
    have g0 : DataW.trod enc Tryz.prog w base spare held m 3 [c0] = some y0 := by have := hg 0 _ rfl; simpa [cellsI, cellsBt] using this
    have g1 : DataW.trod enc Tryz.prog w base spare held m 3 [c1] = some y1 := by have := hg 1 _ rfl; simpa [cellsI, cellsBt] using this
    have g2 : DataW.trod enc Tryz.prog w base spare held m 3 [c2] = some y2 := by have := hg 2 _ rfl; simpa [cellsI, cellsBt] using this
    have g3 : DataW.trod enc Tryz.prog w base spare held m 41 [c3, c4, c5] = some y3 := by have := hg 3 _ rfl; simpa [cellsI, cellsBt] using this
    obtain ⟨x0, e0, _, _⟩ := DataW.trod_int Tryz.underlying3 g0
    obtain ⟨x1, e1, _, _⟩ := DataW.trod_int Tryz.underlying3 g1
    obtain ⟨x2, e2, _, _⟩ := DataW.trod_int Tryz.underlying3 g2
    obtain ⟨b, ra, rc, hc, h1, h2, h3, h4, h5⟩ := bat_of_cells g3
    simp at e0 e1 e2 hc
    obtain ⟨e3, e4, e5⟩ := hc
    subst e0 e1 e2 e3 e4 e5
    exact ⟨⟨x0, x1, x2, b, ra, rc⟩, ⟨h1, h2, h3, h4, h5⟩, rfl⟩

theorem pts_open {fuel : Nat} {a : Option Addr} {len cap : Nat} {x : DataW H × List MemPlace} (h : DataW.trod enc Tryz.prog w base spare held fuel 22 [.slice a len cap] = some x) :
    ∃ rs : List Pt, rs.length = len ∧ len ≤ maxLen ∧ (∀ r ∈ rs, r.Ok w) ∧ PtsAt w a rs := by
  rcases open_slice Tryz.underlying22 h with ⟨hcs, _⟩ | ⟨a', len', cap', m, n, D, Pl, hcs, _, hl, hm, hmm, _, hi⟩
  · simp at hcs
    obtain ⟨rfl, rfl, rfl⟩ := hcs
    exact ⟨[], rfl, Nat.zero_le _, by simp, fun i hi => by simp at hi⟩
  · simp at hcs
    obtain ⟨rfl, rfl, rfl⟩ := hcs
    have hlm : len ≤ m := by rw [hmm]; split <;> omega
    have each : ∀ i, i < len → ∃ r : Pt, r.Ok w ∧ ∀ j u, r.cells[j]? = some u → w.cell? (a'.add (i * 6 + j)) = some u := by
      intro i hil
      obtain ⟨cs', hc, ht⟩ := hi i (by omega)
      rw [cellsPt] at hc
      obtain ⟨r, hok, rfl⟩ := pt_of_cells ht
      obtain ⟨_, hcl, hat⟩ := World.cells?_some hc
      refine ⟨r, hok, fun j u hj => ?_⟩
      have hj6 : j < 6 := by
        have := (List.getElem?_eq_some_iff.1 hj).1
        simpa [Pt.cells] using this
      rw [← add_add, hat j hj6, hj]
    obtain ⟨rs, hrl, hp⟩ := list_of len each
    refine ⟨rs, hrl, by omega, fun r hr => ?_, fun i hir => ?_⟩
    · obtain ⟨i, hir, rfl⟩ := List.getElem_of_mem hr
      exact (hp i hir).1
    · have h0 := (hp 0 (by omega)).2 0 (.int .i64 (rs[0]'(by omega)).what) rfl
      obtain ⟨b, off, spot⟩ := a'
      have hspot : spot = none := by
        simpa [Addr.add] using World.cell?_spot h0
      subst hspot
      refine ⟨b, off, rfl, fun j u hj => ?_⟩
      have := (hp i hir).2 j u hj
      have e1 : (⟨b, off, none⟩ : Addr).add (i * 6 + j) = ⟨b, off + (i * 6 + j), none⟩ := by unfold Addr.add; split <;> simp_all
      rw [e1] at this
      rw [Nat.add_assoc]
      exact this

theorem rls_open {fuel : Nat} {a : Option Addr} {len cap : Nat} {x : DataW H × List MemPlace} (h : DataW.trod enc Tryz.prog w base spare held fuel 61 [.slice a len cap] = some x) :
    ∃ rs : List Rl, rs.length = len ∧ len ≤ maxLen ∧ (∀ r ∈ rs, r.Ok w) ∧ RlsAt w a rs := by
  rcases open_slice Tryz.underlying61 h with ⟨hcs, _⟩ | ⟨a', len', cap', m, n, D, Pl, hcs, _, hl, hm, hmm, _, hi⟩
  · simp at hcs
    obtain ⟨rfl, rfl, rfl⟩ := hcs
    exact ⟨[], rfl, Nat.zero_le _, by simp, fun i hi => by simp at hi⟩
  · simp at hcs
    obtain ⟨rfl, rfl, rfl⟩ := hcs
    have hlm : len ≤ m := by rw [hmm]; split <;> omega
    have each : ∀ i, i < len → ∃ r : Rl, r.Ok w ∧ w.cell? (a'.add i) = some (.slice r.ra r.rs.length r.rc) := by
      intro i hil
      obtain ⟨cs', hc, ht⟩ := hi i (by omega)
      rw [cellsRs] at hc
      obtain ⟨_, hcl, hat⟩ := World.cells?_some hc
      match cs', hcl with
      | [c], _ =>
        obtain ⟨ra, rn, rc, rfl⟩ := slice_form ht
        obtain ⟨rs, rfl, _, hok, hr⟩ := recs_open ht
        refine ⟨⟨ra, rs, rc⟩, ⟨hr, hok⟩, ?_⟩
        have h1 := hat 0 (by omega)
        have e0 : ∀ x : Addr, x.add 0 = x := fun x => by unfold Addr.add; simp
        rw [Nat.mul_one, e0] at h1
        simpa using h1
    obtain ⟨rs, hrl, hp⟩ := list_of len each
    refine ⟨rs, hrl, by omega, fun r hr => ?_, fun i hir => ?_⟩
    · obtain ⟨i, hir, rfl⟩ := List.getElem_of_mem hr
      exact (hp i hir).1
    · have h0 := (hp i hir).2
      have h00 := (hp 0 (by omega)).2
      obtain ⟨b, off, spot⟩ := a'
      have hspot : spot = none := by
        simpa [Addr.add] using World.cell?_spot h00
      subst hspot
      have e1 : (⟨b, off, none⟩ : Addr).add i = ⟨b, off + i, none⟩ := by unfold Addr.add; split <;> simp_all
      rw [e1] at h0
      exact ⟨b, off, rfl, h0⟩
end
end Go.Proofs.YtmaomebnigcgeaaGreatDoor
