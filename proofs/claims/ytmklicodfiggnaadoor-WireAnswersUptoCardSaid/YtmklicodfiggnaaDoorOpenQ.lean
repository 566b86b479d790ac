/-
  A request that came in, as plain data; what the bound on its bulk gives.
-/
import Derived.Test.YtmklicodfiggnaaDoorOpenR
import Derived.Test.YtmklicodfiggnaaDoorRows
import Derived.Lib.SmallJoins
namespace Go.Proofs.YtmklicodfiggnaaDoor
open Go.RowKit Go.ChangeShapes Go.WideShapes Go.Deep

theorem bulk_part {H : Type} {d : DataW H} : ∀ {l : List (DataW H)}, d ∈ l → Rows.uptoBulk d ≤ Rows.uptoBulkAll l
  | [], h => by cases h
  | x :: r, h => by
    simp only [Rows.uptoBulkAll]
    rcases List.mem_cons.1 h with rfl | e
    · omega
    · have := bulk_part e
      omega
theorem bulk_str {H : Type} (l : List UInt8) : Rows.uptoBulk (DataW.lit (H := H) (.string l)) = l.length + 1 := by simp [Rows.uptoBulk]
theorem cellsL : Tryd.prog.cellsOf 22 = 1 := by kernel_rfl
theorem cellsQ : Tryd.prog.cellsOf 24 = 13 := by kernel_rfl
theorem str_size (s : ByteArray) : s.data.toList.length = s.size := by rw [Array.length_toList]; rfl

section
variable {H : Type} {enc : TypeId × Value → H} {w : World} {base : Nat} {spare : Nat → Bool} {held : Bool}

set_option maxRecDepth 100000 in
theorem rec_of_cells2 {n : Nat} {cs : List Value} {y : DataW H × List MemPlace} (h : DataW.trod enc Tryd.prog w base spare held n 99 cs = some y) : ∃ r : Rec, r.Ok ∧ cs = r.cells ∧ r.key.size ≤ Rows.uptoBulk y.1 ∧ r.value.size ≤ Rows.uptoBulk y.1 := by
  obtain ⟨xs, m, _, hy, hl, hx, hg⟩ := DataW.trod_struct Tryd.underlying99 h
  rw [cellsR] at hl
  match cs, hl, xs, hx with
  | [c0, c1, c2, c3, c4, c5], _, [y0, y1, y2, y3, y4, y5], _ =>
    have g0 : DataW.trod enc Tryd.prog w base spare held m 3 [c0] = some y0 := by have := hg 0 _ rfl; simpa [cellsI, cellsB, cellsS] using this
    have g1 : DataW.trod enc Tryd.prog w base spare held m 3 [c1] = some y1 := by have := hg 1 _ rfl; simpa [cellsI, cellsB, cellsS] using this
    have g2 : DataW.trod enc Tryd.prog w base spare held m 4 [c2] = some y2 := by have := hg 2 _ rfl; simpa [cellsI, cellsB, cellsS] using this
    have g3 : DataW.trod enc Tryd.prog w base spare held m 9 [c3] = some y3 := by have := hg 3 _ rfl; simpa [cellsI, cellsB, cellsS] using this
    have g4 : DataW.trod enc Tryd.prog w base spare held m 4 [c4] = some y4 := by have := hg 4 _ rfl; simpa [cellsI, cellsB, cellsS] using this
    have g5 : DataW.trod enc Tryd.prog w base spare held m 9 [c5] = some y5 := by have := hg 5 _ rfl; simpa [cellsI, cellsB, cellsS] using this
    obtain ⟨o, e0, _, w0⟩ := DataW.trod_int Tryd.underlying3 g0
    obtain ⟨t, e1, _, w1⟩ := DataW.trod_int Tryd.underlying3 g1
    obtain ⟨k, e2, _⟩ := DataW.trod_bool Tryd.underlying4 g2
    obtain ⟨key, e3, b3, w3⟩ := DataW.trod_string Tryd.underlying9 g3
    obtain ⟨g, e4, _⟩ := DataW.trod_bool Tryd.underlying4 g4
    obtain ⟨v, e5, b5, w5⟩ := DataW.trod_string Tryd.underlying9 g5
    simp at e0 e1 e2 e3 e4 e5
    subst e0 e1 e2 e3 e4 e5
    refine ⟨⟨o, t, k, key, g, v⟩, ⟨wf64 w0, wf64 w1, w3, w5⟩, rfl, ?_, ?_⟩
    · rw [hy]
      have h := bulk_part (H := H) (d := y3.1) (l := [y0, y1, y2, y3, y4, y5].map (·.1)) (by simp)
      rw [b3, bulk_str, str_size] at h
      simp only [Rows.uptoBulk]
      rw [b3]
      omega
    · rw [hy]
      have h := bulk_part (H := H) (d := y5.1) (l := [y0, y1, y2, y3, y4, y5].map (·.1)) (by simp)
      rw [b5, bulk_str, str_size] at h
      simp only [Rows.uptoBulk]
      rw [b5]
      omega

theorem recs_open2 {fuel : Nat} {a : Option Addr} {len cap : Nat} {x : DataW H × List MemPlace} (h : DataW.trod enc Tryd.prog w base spare held fuel 22 [.slice a len cap] = some x) :
    ∃ rs : List Rec, rs.length = len ∧ len ≤ maxLen ∧ (∀ r ∈ rs, r.key.size ≤ Rows.uptoBulk x.1 ∧ r.value.size ≤ Rows.uptoBulk x.1) ∧ RecsAt w a rs := by
  rcases open_slice Tryd.underlying22 h with ⟨hcs, _⟩ | ⟨a', len', cap', m, n, D, Pl, hcs, _, hl, hm, hmm, hxx, hi⟩
  · simp at hcs
    obtain ⟨rfl, rfl, rfl⟩ := hcs
    exact ⟨[], rfl, Nat.zero_le _, by simp, fun i hi => by simp at hi⟩
  · simp at hcs
    obtain ⟨rfl, rfl, rfl⟩ := hcs
    have hlm : len ≤ m := by rw [hmm]; split <;> omega
    have hB : ∀ i, i < len → Rows.uptoBulk (D i) ≤ Rows.uptoBulk x.1 := by
      intro i hil
      rw [hxx]
      have h := bulk_part (H := H) (d := D i) (l := (List.range len).map D) (List.mem_map.2 ⟨i, List.mem_range.2 hil, rfl⟩)
      simp only [Rows.uptoBulk]
      omega
    have each : ∀ i, i < len → ∃ r : Rec, (r.key.size ≤ Rows.uptoBulk x.1 ∧ r.value.size ≤ Rows.uptoBulk x.1) ∧ ∀ j u, r.cells[j]? = some u → w.cell? (a'.add (i * 6 + j)) = some u := by
      intro i hil
      obtain ⟨cs', hc, ht⟩ := hi i (by omega)
      rw [cellsR] at hc
      obtain ⟨r, hok, rfl, hk1, hk2⟩ := rec_of_cells2 ht
      obtain ⟨_, hcl, hat⟩ := World.cells?_some hc
      refine ⟨r, ⟨Nat.le_trans hk1 (hB i hil), Nat.le_trans hk2 (hB i hil)⟩, fun j u hj => ?_⟩
      have hj6 : j < 6 := by
        have := (List.getElem?_eq_some_iff.1 hj).1
        simpa [Rec.cells] using this
      rw [← add_add, hat j hj6, hj]
    obtain ⟨rs, hrl, hp⟩ := list_of len each
    refine ⟨rs, hrl, by omega, fun r hr => ?_, fun i hir => ?_⟩
    · obtain ⟨i, hir, rfl⟩ := List.getElem_of_mem hr
      exact (hp i hir).1
    · have h0 := (hp 0 (by omega)).2 0 (.int .i64 (rs[0]'(by omega)).off) rfl
      obtain ⟨b, off, spot⟩ := a'
      have hspot : spot = none := by
        simpa [Addr.add] using World.cell?_spot h0
      subst hspot
      refine ⟨b, off, rfl, fun j u hj => ?_⟩
      have := (hp i hir).2 j u hj
      have e1 : (⟨b, off, none⟩ : Addr).add (i * 6 + j) = ⟨b, off + (i * 6 + j), none⟩ := by unfold Addr.add; split <;> simp_all
      rw [e1] at this
      rw [Nat.add_assoc]
      exact this

set_option maxRecDepth 100000 in
set_option maxHeartbeats 2000000 in
theorem req_of_cells {n : Nat} {cs : List Value} {y : DataW H × List MemPlace} (h : DataW.trod enc Tryd.prog w base spare held n 24 cs = some y) :
    ∃ (kind corr part offset most least wait time parts : Int) (topic : ByteArray) (sure compact : Bool) (recs : List Rec) (a : Option Addr) (cap : Nat),
      cs = [.int .i64 kind, .int .i64 corr, .string topic, .int .i64 part, .int .i64 offset, .int .i64 most, .int .i64 least, .int .i64 wait, .int .i64 time, .int .i64 parts, .bool sure, .bool compact, .slice a recs.length cap] ∧
      topic.size ≤ Rows.uptoBulk y.1 ∧ recs.length ≤ maxLen ∧ (∀ r ∈ recs, r.key.size ≤ Rows.uptoBulk y.1 ∧ r.value.size ≤ Rows.uptoBulk y.1) ∧ RecsAt w a recs := by
  obtain ⟨xs, m, _, hy, hl, hx, hg⟩ := DataW.trod_struct Tryd.underlying24 h
  rw [cellsQ] at hl
  match cs, hl, xs, hx with
  | [c0, c1, c2, c3, c4, c5, c6, c7, c8, c9, c10, c11, c12], _, [y0, y1, y2, y3, y4, y5, y6, y7, y8, y9, y10, y11, y12], _ =>
    have g0 : DataW.trod enc Tryd.prog w base spare held m 3 [c0] = some y0 := by have := hg 0 _ rfl; simpa [cellsI, cellsB, cellsS, cellsL] using this
    have g1 : DataW.trod enc Tryd.prog w base spare held m 3 [c1] = some y1 := by have := hg 1 _ rfl; simpa [cellsI, cellsB, cellsS, cellsL] using this
    have g2 : DataW.trod enc Tryd.prog w base spare held m 9 [c2] = some y2 := by have := hg 2 _ rfl; simpa [cellsI, cellsB, cellsS, cellsL] using this
    have g3 : DataW.trod enc Tryd.prog w base spare held m 3 [c3] = some y3 := by have := hg 3 _ rfl; simpa [cellsI, cellsB, cellsS, cellsL] using this
    have g4 : DataW.trod enc Tryd.prog w base spare held m 3 [c4] = some y4 := by have := hg 4 _ rfl; simpa [cellsI, cellsB, cellsS, cellsL] using this
    have g5 : DataW.trod enc Tryd.prog w base spare held m 3 [c5] = some y5 := by have := hg 5 _ rfl; simpa [cellsI, cellsB, cellsS, cellsL] using this
    have g6 : DataW.trod enc Tryd.prog w base spare held m 3 [c6] = some y6 := by have := hg 6 _ rfl; simpa [cellsI, cellsB, cellsS, cellsL] using this
    have g7 : DataW.trod enc Tryd.prog w base spare held m 3 [c7] = some y7 := by have := hg 7 _ rfl; simpa [cellsI, cellsB, cellsS, cellsL] using this
    have g8 : DataW.trod enc Tryd.prog w base spare held m 3 [c8] = some y8 := by have := hg 8 _ rfl; simpa [cellsI, cellsB, cellsS, cellsL] using this
    have g9 : DataW.trod enc Tryd.prog w base spare held m 3 [c9] = some y9 := by have := hg 9 _ rfl; simpa [cellsI, cellsB, cellsS, cellsL] using this
    have g10 : DataW.trod enc Tryd.prog w base spare held m 4 [c10] = some y10 := by have := hg 10 _ rfl; simpa [cellsI, cellsB, cellsS, cellsL] using this
    have g11 : DataW.trod enc Tryd.prog w base spare held m 4 [c11] = some y11 := by have := hg 11 _ rfl; simpa [cellsI, cellsB, cellsS, cellsL] using this
    have g12 : DataW.trod enc Tryd.prog w base spare held m 22 [c12] = some y12 := by have := hg 12 _ rfl; simpa [cellsI, cellsB, cellsS, cellsL] using this
    obtain ⟨x0, e0, _, _⟩ := DataW.trod_int Tryd.underlying3 g0
    obtain ⟨x1, e1, _, _⟩ := DataW.trod_int Tryd.underlying3 g1
    obtain ⟨x2, e2, b2, _⟩ := DataW.trod_string Tryd.underlying9 g2
    obtain ⟨x3, e3, _, _⟩ := DataW.trod_int Tryd.underlying3 g3
    obtain ⟨x4, e4, _, _⟩ := DataW.trod_int Tryd.underlying3 g4
    obtain ⟨x5, e5, _, _⟩ := DataW.trod_int Tryd.underlying3 g5
    obtain ⟨x6, e6, _, _⟩ := DataW.trod_int Tryd.underlying3 g6
    obtain ⟨x7, e7, _, _⟩ := DataW.trod_int Tryd.underlying3 g7
    obtain ⟨x8, e8, _, _⟩ := DataW.trod_int Tryd.underlying3 g8
    obtain ⟨x9, e9, _, _⟩ := DataW.trod_int Tryd.underlying3 g9
    obtain ⟨x10, e10, _⟩ := DataW.trod_bool Tryd.underlying4 g10
    obtain ⟨x11, e11, _⟩ := DataW.trod_bool Tryd.underlying4 g11
    have hsl : ∃ a1 len1 cap1, c12 = .slice a1 len1 cap1 := by
      rcases Go.Deep.open_slice Tryd.underlying22 g12 with ⟨hcs, _⟩ | ⟨a', len', cap', _, _, _, _, hcs, _⟩
      · simp at hcs; exact ⟨_, _, _, hcs⟩
      · simp at hcs; exact ⟨_, _, _, hcs⟩
    obtain ⟨a1, len1, cap1, rfl⟩ := hsl
    obtain ⟨rs, rfl, hm1, hsz, hrc⟩ := recs_open2 g12
    simp at e0 e1 e2 e3 e4 e5 e6 e7 e8 e9 e10 e11
    subst e0 e1 e2 e3 e4 e5 e6 e7 e8 e9 e10 e11
    have hB : ∀ d ∈ [y0, y1, y2, y3, y4, y5, y6, y7, y8, y9, y10, y11, y12].map (·.1), Rows.uptoBulk d ≤ Rows.uptoBulk y.1 := by
      intro d hd
      rw [hy]
      have h := bulk_part hd
      simp only [Rows.uptoBulk]
      omega
    refine ⟨x0, x1, x3, x4, x5, x6, x7, x8, x9, x2, x10, x11, rs, a1, cap1, rfl, ?_, hm1, fun r hr => ?_, hrc⟩
    · have h := hB y2.1 (by simp)
      rw [b2, bulk_str, str_size] at h
      omega
    · have h := hB y12.1 (by simp)
      exact ⟨Nat.le_trans (hsz r hr).1 h, Nat.le_trans (hsz r hr).2 h⟩

set_option maxRecDepth 100000 in
theorem req_open {b0 : Nat} {v : Value} {d : DataW H} {p : List MemPlace} (hv : Value.okWide Tryd.prog w .any b0 24 v) (h : DataW.Trod enc Tryd.prog w base spare held 24 v d p) (hB : Rows.uptoBulk d ≤ 1048576) :
    ∃ (kind corr part offset most least wait time parts : Int) (topic : ByteArray) (sure compact : Bool) (recs : List Rec) (a : Option Addr) (cap : Nat),
      v = .agg #[.int .i64 kind, .int .i64 corr, .string topic, .int .i64 part, .int .i64 offset, .int .i64 most, .int .i64 least, .int .i64 wait, .int .i64 time, .int .i64 parts, .bool sure, .bool compact, .slice a recs.length cap] ∧
      topic.size ≤ 1048576 ∧ recs.length ≤ maxLen ∧ (∀ r ∈ recs, r.key.size ≤ 1048576 ∧ r.value.size ≤ 1048576) ∧ RecsAt w a recs := by
  obtain ⟨cs, rfl, hsz⟩ := okWide_struct Tryd.underlying24 hv
  obtain ⟨fuel, hf⟩ := h
  obtain ⟨kind, corr, part, offset, most, least, wait, time, parts, topic, sure, compact, recs, a, cap, hcs, h1, h2, h3, h4⟩ := req_of_cells hf
  refine ⟨kind, corr, part, offset, most, least, wait, time, parts, topic, sure, compact, recs, a, cap, ?_, Nat.le_trans h1 hB, h2, fun r hr => ⟨Nat.le_trans (h3 r hr).1 hB, Nat.le_trans (h3 r hr).2 hB⟩, h4⟩
  have e : cs.toList = (Value.agg cs).cells.toList := by simp [Value.cells]
  congr 1
  rw [← Array.toArray_toList (xs := cs), e, hcs]
end
end Go.Proofs.YtmklicodfiggnaaDoor
