/-
  The document's disk: a file turned in its place; a crash.
-/
import Derived.Test.YthjdkhjdgmnliaaGreatDoorRkR
set_option linter.unusedSimpArgs false
set_option linter.unusedVariables false
namespace Go.Proofs.YthjdkhjdgmnliaaGreatDoor
open Go.RowKit Go.Maps Go.Sort Go.Shelf

theorem heap_setc {w : World} {g k : Nat} {c : Array Value} {e : TypeId} {fr : Nat × Nat} {v : Value} (h : w.heap[g]? = some (.cells c e fr)) : (w.setCell ⟨g, k, none⟩ v).heap[g]? = some (.cells (c.setIfInBounds k v) e fr) := by
  simp only [World.setCell, Array.getElem?_modify, if_true, h, Option.map_some]
  simp
theorem thr_set : ∀ (rs : List Rf) (i j : Nat) (u : Value) (r' : Rf) (hi : i < rs.length), j < 3 → r'.cells = (rs[i].cells).set j u → (rs.flatMap Rf.cells).set (i * 3 + j) u = (rs.set i r').flatMap Rf.cells
  | [], i, j, u, r', h, _, _ => by simp at h
  | m :: M, 0, j, u, r', _, hj, he => by
    rw [List.flatMap_cons, List.set_cons_zero, List.flatMap_cons, he]
    have hl : m.cells.length = 3 := rfl
    rw [List.set_append_left _ _ (by omega)]
    simp
  | m :: M, i + 1, j, u, r', h, hj, he => by
    have hl : m.cells.length = 3 := rfl
    rw [List.flatMap_cons, List.set_cons_succ, List.flatMap_cons, ← thr_set M i j u r' (by simpa using h) hj (by simpa using he)]
    rw [List.set_append_right _ _ (by omega), hl, show (i + 1) * 3 + j - 3 = i * 3 + j by omega]
theorem OwnF.put {w : World} {g cap : Nat} {rs : List Rf} (h : OwnF w (.slice (some ⟨g, 0, none⟩) rs.length cap) rs) {i : Nat} (hi : i < rs.length) {j : Nat} (hj : j < 3) (u : Value) (r' : Rf) (he : r'.cells = (rs[i].cells).set j u) :
    OwnF (w.setCell ⟨g, i * 3 + j, none⟩ u) (.slice (some ⟨g, 0, none⟩) (rs.set i r').length cap) (rs.set i r') := by
  rcases h.2 with ⟨e, _⟩ | ⟨g', cap', cur, e, hb, hg, hnc, hcm, hcs, htake⟩
  · cases e
  · simp only [Value.slice.injEq, Option.some.injEq, Addr.mk.injEq] at e
    obtain ⟨⟨rfl, _⟩, _, rfl⟩ := e
    have hl : (rs.set i r').length = rs.length := List.length_set
    unfold OwnF
    rw [hl]
    refine ⟨by rw [thr_len, hl], .inr ⟨g, cap, _, rfl, hb, heap_setc hg, hnc, hcm, by simpa using hcs, ?_⟩⟩
    simp only [Array.toList_setIfInBounds, List.take_set, htake]
    exact thr_set rs i j u r' hi hj he
theorem OwnF.free {w : World} {g cap : Nat} {rs : List Rf} (h : OwnF w (.slice (some ⟨g, 0, none⟩) rs.length cap) rs) (k : Nat) : w.frozen? ⟨g, k, none⟩ = false := by
  rcases h.2 with ⟨e, _⟩ | ⟨g', cap', cur, e, _, hg, _⟩
  · cases e
  · simp only [Value.slice.injEq, Option.some.injEq, Addr.mk.injEq] at e
    obtain ⟨⟨rfl, _⟩, _, rfl⟩ := e
    simp [World.frozen?, hg]
theorem Rm.turn {w w2 : World} {q : Nat} {v v2 : Value} {rs : List Rf} {room : Nat} {left : Int} (h : Rm w q v rs room left) {i : Nat} (hv : v2 = v) (r' : Rf) (ho : OwnF w2 v2 (rs.set i r')) (hc : Chg (fun k => v.ownBlock = some k) w w2) (hb : SlcRow w2 5 1 r'.v r'.f.bytes.length (r'.f.bytes.map bval)) :
    Rm w2 q v2 (rs.set i r') room left := by
  subst hv
  refine ⟨h.c.chg hc h.ne.1, ho, fun r hr => ?_⟩
  rcases List.mem_or_eq_of_mem_set hr with hr | rfl
  · exact (h.b r hr).chg hc (fun k hk hk2 => (h.ne.2 r hr).2 k hk2 hk)
  · exact hb
theorem set_turn {d : Dk} {rs : List Rf} {i : Nat} {t : Nm} {r' : Rf} (hfs : d.fs = rs.map (fun r => (r.x, r.f))) (hn : d.names.Nodup) (hi : i < rs.length) (hx : rs[i].x = t) (hx' : r'.x = t) :
    (d.turn t r'.f).fs = (rs.set i r').map (fun r => (r.x, r.f)) := by
  show d.fs.map _ = _
  rw [hfs, List.map_map]
  have hnn : (rs.map Rf.x).Nodup := by
    have : d.names = rs.map Rf.x := by unfold Dk.names; rw [hfs, List.map_map]; rfl
    rw [← this]; exact hn
  apply List.ext_getElem
  · simp
  · intro j h1 h2
    simp only [List.length_map] at h1
    simp only [List.getElem_map, Function.comp_def, List.getElem_set]
    by_cases e : i = j
    · subst e
      rw [if_pos rfl, if_pos hx, hx, hx']
    · rw [if_neg e]
      have : ¬ rs[j].x = t := fun e2 => by
        have h3 : (rs.map Rf.x)[i]'(by simpa using hi) = (rs.map Rf.x)[j]'(by simpa using h1) := by simp [hx, e2]
        exact e ((List.getElem_inj hnn).1 h3)
      rw [if_neg this]
end Go.Proofs.YthjdkhjdgmnliaaGreatDoor
