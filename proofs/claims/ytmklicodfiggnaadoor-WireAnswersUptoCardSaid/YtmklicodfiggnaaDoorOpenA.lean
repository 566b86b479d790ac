/-
  An answer that came in, as plain data; what the bound on its bulk gives.
-/
import Derived.Test.YtmklicodfiggnaaDoorOpenQ
import Derived.Test.YtmklicodfiggnaaDoorTellL
namespace Go.Proofs.YtmklicodfiggnaaDoor
open Go.RowKit Go.ChangeShapes Go.WideShapes Go.Deep

theorem cellsTp : Tryd.prog.cellsOf 74 = 3 := by kernel_rfl
theorem cellsTL : Tryd.prog.cellsOf 35 = 1 := by kernel_rfl
theorem cellsE : Tryd.prog.cellsOf 26 = 1 := by kernel_rfl
theorem cellsAn : Tryd.prog.cellsOf 37 = 9 := by kernel_rfl

section
variable {H : Type} {enc : TypeId × Value → H} {w : World} {base : Nat} {spare : Nat → Bool} {held : Bool}

theorem bulk_one {H : Type} (d : DataW H) : 1 ≤ Rows.uptoBulk d := by
  cases d with
  | lit l => cases l <;> simp [Rows.uptoBulk]
  | nil => simp [Rows.uptoBulk]
  | ptr d => simp [Rows.uptoBulk]
  | slice elems spare => simp [Rows.uptoBulk]
  | agg parts => simp [Rows.uptoBulk]
  | iface t d => simp [Rows.uptoBulk]
  | map entries => simp [Rows.uptoBulk]
  | held h => simp [Rows.uptoBulk]
theorem bulk_len {H : Type} : ∀ l : List (DataW H), l.length ≤ Rows.uptoBulkAll l
  | [] => by simp [Rows.uptoBulkAll]
  | x :: r => by
    have h1 := bulk_one x
    have h2 := bulk_len r
    simp only [Rows.uptoBulkAll, List.length_cons]
    omega
theorem slice_bulk {t e : TypeId} {fuel : Nat} {a : Option Addr} {len cap : Nat} {x : DataW H × List MemPlace} (ht : Tryd.prog.underlying t = some (.slice e)) (h : DataW.trod enc Tryd.prog w base spare held fuel t [.slice a len cap] = some x) : len ≤ Rows.uptoBulk x.1 := by
  rcases open_slice ht h with ⟨hcs, _⟩ | ⟨a', len', cap', m, n, D, Pl, hcs, _, hl, hm, hmm, hxx, hi⟩
  · simp at hcs
    omega
  · simp at hcs
    obtain ⟨rfl, rfl, rfl⟩ := hcs
    rw [hxx]
    have h := bulk_len ((List.range len).map D)
    rw [List.length_map, List.length_range] at h
    simp only [Rows.uptoBulk]
    omega

set_option maxRecDepth 100000 in
theorem tp_of_cells {n : Nat} {cs : List Value} {y : DataW H × List MemPlace} (h : DataW.trod enc Tryd.prog w base spare held n 74 cs = some y) : ∃ r : Tp, cs = r.cells ∧ r.name.size ≤ Rows.uptoBulk y.1 := by
  obtain ⟨xs, m, _, hy, hl, hx, hg⟩ := DataW.trod_struct Tryd.underlying74 h
  rw [cellsTp] at hl
  match cs, hl, xs, hx with
  | [c0, c1, c2], _, [y0, y1, y2], _ =>
    have g0 : DataW.trod enc Tryd.prog w base spare held m 9 [c0] = some y0 := by have := hg 0 _ rfl; simpa [cellsI, cellsB, cellsS] using this
    have g1 : DataW.trod enc Tryd.prog w base spare held m 3 [c1] = some y1 := by have := hg 1 _ rfl; simpa [cellsI, cellsB, cellsS] using this
    have g2 : DataW.trod enc Tryd.prog w base spare held m 4 [c2] = some y2 := by have := hg 2 _ rfl; simpa [cellsI, cellsB, cellsS] using this
    obtain ⟨nm, e0, b0, _⟩ := DataW.trod_string Tryd.underlying9 g0
    obtain ⟨pt, e1, _, _⟩ := DataW.trod_int Tryd.underlying3 g1
    obtain ⟨cp, e2, _⟩ := DataW.trod_bool Tryd.underlying4 g2
    simp at e0 e1 e2
    subst e0 e1 e2
    refine ⟨⟨nm, pt, cp⟩, rfl, ?_⟩
    rw [hy]
    have h := bulk_part (H := H) (d := y0.1) (l := [y0, y1, y2].map (·.1)) (by simp)
    rw [b0, bulk_str, str_size] at h
    simp only [Rows.uptoBulk]
    rw [b0]
    omega

theorem tops_open {fuel : Nat} {a : Option Addr} {len cap : Nat} {x : DataW H × List MemPlace} (h : DataW.trod enc Tryd.prog w base spare held fuel 35 [.slice a len cap] = some x) :
    ∃ rs : List Tp, rs.length = len ∧ len ≤ maxLen ∧ (∀ r ∈ rs, r.name.size ≤ Rows.uptoBulk x.1) ∧ TopsAt w a rs := by
  rcases open_slice Tryd.underlying35 h with ⟨hcs, _⟩ | ⟨a', len', cap', m, n, D, Pl, hcs, _, hl, hm, hmm, hxx, hi⟩
  · simp at hcs
    obtain ⟨rfl, rfl, rfl⟩ := hcs
    exact ⟨[], rfl, Nat.zero_le _, by simp, fun i hi => by simp at hi⟩
  · simp at hcs
    obtain ⟨rfl, rfl, rfl⟩ := hcs
    have hlm : len ≤ m := by rw [hmm]; split <;> omega
    have hB : ∀ i, i < len → Rows.uptoBulk (D i) ≤ Rows.uptoBulk x.1 := by
      intro i hil
      rw [hxx]
      have h := bulk_part (H := H) (d := D i) (l := (List.range len).map D) (List.mem_map.2 ⟨i, List.mem_range.2 hil, rfl⟩)
      simp only [Rows.uptoBulk]
      omega
    have each : ∀ i, i < len → ∃ r : Tp, r.name.size ≤ Rows.uptoBulk x.1 ∧ ∀ j u, r.cells[j]? = some u → w.cell? (a'.add (i * 3 + j)) = some u := by
      intro i hil
      obtain ⟨cs', hc, ht⟩ := hi i (by omega)
      rw [cellsTp] at hc
      obtain ⟨r, rfl, hk1⟩ := tp_of_cells ht
      obtain ⟨_, hcl, hat⟩ := World.cells?_some hc
      refine ⟨r, Nat.le_trans hk1 (hB i hil), fun j u hj => ?_⟩
      have hj6 : j < 3 := by
        have := (List.getElem?_eq_some_iff.1 hj).1
        simpa [Tp.cells] using this
      rw [← add_add, hat j hj6, hj]
    obtain ⟨rs, hrl, hp⟩ := list_of len each
    refine ⟨rs, hrl, by omega, fun r hr => ?_, fun i hir => ?_⟩
    · obtain ⟨i, hir, rfl⟩ := List.getElem_of_mem hr
      exact (hp i hir).1
    · have h0 := (hp 0 (by omega)).2 0 (.string (rs[0]'(by omega)).name) rfl
      obtain ⟨b, off, spot⟩ := a'
      have hspot : spot = none := by
        simpa [Addr.add] using World.cell?_spot h0
      subst hspot
      refine ⟨b, off, rfl, fun j u hj => ?_⟩
      have := (hp i hir).2 j u hj
      have e1 : (⟨b, off, none⟩ : Addr).add (i * 3 + j) = ⟨b, off + (i * 3 + j), none⟩ := by unfold Addr.add; split <;> simp_all
      rw [e1] at this
      rw [Nat.add_assoc]
      exact this

set_option maxRecDepth 100000 in
set_option maxHeartbeats 2000000 in
theorem ans_of_cells {n : Nat} {cs : List Value} {y : DataW H × List MemPlace} (h : DataW.trod enc Tryd.prog w base spare held n 37 cs = some y) :
    ∃ (kind corr err offset start fin : Int) (found : Bool) (recs : List Rec) (a : Option Addr) (cap : Nat) (tops : List Tp) (b : Option Addr) (bcap : Nat),
      cs = [.int .i64 kind, .int .i64 corr, .int .i64 err, .int .i64 offset, .int .i64 start, .int .i64 fin, .bool found, .slice a recs.length cap, .slice b tops.length bcap] ∧
      recs.length ≤ Rows.uptoBulk y.1 ∧ (∀ r ∈ recs, r.key.size ≤ Rows.uptoBulk y.1 ∧ r.value.size ≤ Rows.uptoBulk y.1) ∧ RecsAt w a recs ∧ tops.length ≤ Rows.uptoBulk y.1 ∧ (∀ t ∈ tops, t.name.size ≤ Rows.uptoBulk y.1) ∧ TopsAt w b tops := by
  obtain ⟨xs, m, _, hy, hl, hx, hg⟩ := DataW.trod_struct Tryd.underlying37 h
  rw [cellsAn] at hl
  match cs, hl, xs, hx with
  | [c0, c1, c2, c3, c4, c5, c6, c7, c8], _, [y0, y1, y2, y3, y4, y5, y6, y7, y8], _ =>
    have g0 : DataW.trod enc Tryd.prog w base spare held m 3 [c0] = some y0 := by have := hg 0 _ rfl; simpa [cellsI, cellsB, cellsS, cellsL, cellsTL, cellsE] using this
    have g1 : DataW.trod enc Tryd.prog w base spare held m 3 [c1] = some y1 := by have := hg 1 _ rfl; simpa [cellsI, cellsB, cellsS, cellsL, cellsTL, cellsE] using this
    have g2 : DataW.trod enc Tryd.prog w base spare held m 26 [c2] = some y2 := by have := hg 2 _ rfl; simpa [cellsI, cellsB, cellsS, cellsL, cellsTL, cellsE] using this
    have g3 : DataW.trod enc Tryd.prog w base spare held m 3 [c3] = some y3 := by have := hg 3 _ rfl; simpa [cellsI, cellsB, cellsS, cellsL, cellsTL, cellsE] using this
    have g4 : DataW.trod enc Tryd.prog w base spare held m 3 [c4] = some y4 := by have := hg 4 _ rfl; simpa [cellsI, cellsB, cellsS, cellsL, cellsTL, cellsE] using this
    have g5 : DataW.trod enc Tryd.prog w base spare held m 3 [c5] = some y5 := by have := hg 5 _ rfl; simpa [cellsI, cellsB, cellsS, cellsL, cellsTL, cellsE] using this
    have g6 : DataW.trod enc Tryd.prog w base spare held m 4 [c6] = some y6 := by have := hg 6 _ rfl; simpa [cellsI, cellsB, cellsS, cellsL, cellsTL, cellsE] using this
    have g7 : DataW.trod enc Tryd.prog w base spare held m 22 [c7] = some y7 := by have := hg 7 _ rfl; simpa [cellsI, cellsB, cellsS, cellsL, cellsTL, cellsE] using this
    have g8 : DataW.trod enc Tryd.prog w base spare held m 35 [c8] = some y8 := by have := hg 8 _ rfl; simpa [cellsI, cellsB, cellsS, cellsL, cellsTL, cellsE] using this
    obtain ⟨x0, e0, _, _⟩ := DataW.trod_int Tryd.underlying3 g0
    obtain ⟨x1, e1, _, _⟩ := DataW.trod_int Tryd.underlying3 g1
    obtain ⟨x2, e2, _, _⟩ := DataW.trod_int Tryd.underlying26 g2
    obtain ⟨x3, e3, _, _⟩ := DataW.trod_int Tryd.underlying3 g3
    obtain ⟨x4, e4, _, _⟩ := DataW.trod_int Tryd.underlying3 g4
    obtain ⟨x5, e5, _, _⟩ := DataW.trod_int Tryd.underlying3 g5
    obtain ⟨x6, e6, _⟩ := DataW.trod_bool Tryd.underlying4 g6
    have hsl : ∃ a1 len1 cap1, c7 = .slice a1 len1 cap1 := by
      rcases Go.Deep.open_slice Tryd.underlying22 g7 with ⟨hcs, _⟩ | ⟨a', len', cap', _, _, _, _, hcs, _⟩
      · simp at hcs; exact ⟨_, _, _, hcs⟩
      · simp at hcs; exact ⟨_, _, _, hcs⟩
    obtain ⟨a1, len1, cap1, rfl⟩ := hsl
    have hn7 := slice_bulk Tryd.underlying22 g7
    obtain ⟨rs, rfl, hm1, hsz, hrc⟩ := recs_open2 g7
    have hsl : ∃ a1 len1 cap1, c8 = .slice a1 len1 cap1 := by
      rcases Go.Deep.open_slice Tryd.underlying35 g8 with ⟨hcs, _⟩ | ⟨a', len', cap', _, _, _, _, hcs, _⟩
      · simp at hcs; exact ⟨_, _, _, hcs⟩
      · simp at hcs; exact ⟨_, _, _, hcs⟩
    obtain ⟨a2, len2, cap2, rfl⟩ := hsl
    have hn8 := slice_bulk Tryd.underlying35 g8
    obtain ⟨ts, rfl, hm2, hst, htp⟩ := tops_open g8
    simp at e0 e1 e2 e3 e4 e5 e6
    subst e0 e1 e2 e3 e4 e5 e6
    have hB : ∀ d ∈ [y0, y1, y2, y3, y4, y5, y6, y7, y8].map (·.1), Rows.uptoBulk d ≤ Rows.uptoBulk y.1 := by
      intro d hd
      rw [hy]
      have h := bulk_part hd
      simp only [Rows.uptoBulk]
      omega
    refine ⟨x0, x1, x2, x3, x4, x5, x6, rs, a1, cap1, ts, a2, cap2, rfl, Nat.le_trans hn7 (hB y7.1 (by simp)), fun r hr => ?_, hrc, Nat.le_trans hn8 (hB y8.1 (by simp)), fun t ht => ?_, htp⟩
    · have h := hB y7.1 (by simp)
      exact ⟨Nat.le_trans (hsz r hr).1 h, Nat.le_trans (hsz r hr).2 h⟩
    · exact Nat.le_trans (hst t ht) (hB y8.1 (by simp))

set_option maxRecDepth 100000 in
theorem ans_open {b0 : Nat} {v : Value} {d : DataW H} {p : List MemPlace} (hv : Value.okWide Tryd.prog w .any b0 37 v) (h : DataW.Trod enc Tryd.prog w base spare held 37 v d p) (hB : Rows.uptoBulk d ≤ 1048576) :
    ∃ (kind corr err offset start fin : Int) (found : Bool) (recs : List Rec) (a : Option Addr) (cap : Nat) (tops : List Tp) (b : Option Addr) (bcap : Nat),
      v = .agg #[.int .i64 kind, .int .i64 corr, .int .i64 err, .int .i64 offset, .int .i64 start, .int .i64 fin, .bool found, .slice a recs.length cap, .slice b tops.length bcap] ∧
      recs.length ≤ 1048576 ∧ (∀ r ∈ recs, r.key.size ≤ 1048576 ∧ r.value.size ≤ 1048576) ∧ RecsAt w a recs ∧ tops.length ≤ 1048576 ∧ (∀ t ∈ tops, t.name.size ≤ 1048576) ∧ TopsAt w b tops := by
  obtain ⟨cs, rfl, hsz⟩ := okWide_struct Tryd.underlying37 hv
  obtain ⟨fuel, hf⟩ := h
  obtain ⟨kind, corr, err, offset, start, fin, found, recs, a, cap, tops, b, bcap, hcs, h1, h2, h3, h4, h5, h6⟩ := ans_of_cells hf
  refine ⟨kind, corr, err, offset, start, fin, found, recs, a, cap, tops, b, bcap, ?_, Nat.le_trans h1 hB, fun r hr => ⟨Nat.le_trans (h2 r hr).1 hB, Nat.le_trans (h2 r hr).2 hB⟩, h3, Nat.le_trans h4 hB, fun t ht => Nat.le_trans (h5 t ht) hB, h6⟩
  have e : cs.toList = (Value.agg cs).cells.toList := by simp [Value.cells]
  congr 1
  rw [← Array.toArray_toList (xs := cs), e, hcs]
end
end Go.Proofs.YtmklicodfiggnaaDoor
