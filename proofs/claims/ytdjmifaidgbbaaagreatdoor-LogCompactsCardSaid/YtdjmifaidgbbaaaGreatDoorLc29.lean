/-
  The least offset since a time. (Of the segments' seat.)
-/
import Derived.Test.YtdjmifaidgbbaaaGreatDoorLc28
set_option linter.unusedSimpArgs false
set_option linter.unusedVariables false
namespace Go.Proofs.YtdjmifaidgbbaaaGreatDoor
open Go.RowKit Go.Maps

theorem OwnM.val {w : World} {v : Value} {l : List Bm} (h : OwnM w v l) : ∃ a cap, v = .slice a l.length cap ∧ l.length ≤ cap ∧
    ∀ i (h : i < l.length), ∃ g, a = some ⟨g, 0, none⟩ ∧ ∀ j u, (l[i].c3)[j]? = some u → w.cell? ⟨g, i * 3 + j, none⟩ = some u := by
  rcases h.2 with ⟨rfl, hn⟩ | ⟨g, cap, cur, rfl, _, _, hle, _⟩
  · exact ⟨none, 0, by rw [hn], by omega, fun i hi => absurd hi (by omega)⟩
  · have e1 : ∀ j, (⟨g, 0, none⟩ : Addr).add j = ⟨g, j, none⟩ := fun j => by unfold Addr.add; split <;> simp_all
    refine ⟨some ⟨g, 0, none⟩, cap, rfl, hle, fun i hi => ⟨g, rfl, fun j u hj => ?_⟩⟩
    have := World.ownsRow.cells h (g := g) rfl (i * 3 + j) _ (fm_get (f := Bm.c3) (n := 3) (fun _ => rfl) l i hi j _ hj)
    rwa [e1] at this
theorem fold_ge : ∀ (rs : List Rec) (a : Int), a ≤ rs.foldl (fun t r => max t r.time) a ∧ ∀ r ∈ rs, r.time ≤ rs.foldl (fun t r => max t r.time) a
  | [], a => ⟨Int.le_refl _, fun r hr => by cases hr⟩
  | x :: rs, a => by
    have h := fold_ge rs (max a x.time)
    rw [List.foldl_cons]
    refine ⟨by omega, fun r hr => ?_⟩
    rcases List.mem_cons.1 hr with rfl | hr
    · omega
    · exact h.2 r hr
theorem timeOf_ge (rs : List Rec) : ∀ r ∈ rs, r.time ≤ timeOf rs := (fold_ge rs (-1)).2
def sinceV : Option Rec → Value
  | some r => .tuple #[.int .i64 r.off, .bool true]
  | none => .tuple #[.int .i64 0, .bool false]
theorem since_none {l : List Bt} {t : Int} (h : ∀ b ∈ l, ∀ r ∈ b.rs, r.time < t) : sinceL l t = none := by
  unfold sinceL
  rw [List.find?_eq_none]
  intro r hr
  obtain ⟨b, hb, hr⟩ := List.mem_flatMap.1 hr
  have := h b hb r hr
  simp
  omega
theorem since_found {l : List Bt} {t : Int} {i j : Nat} (hi : i < l.length) (hj : j < l[i].rs.length) (h1 : ∀ b ∈ l.take i, ∀ r ∈ b.rs, r.time < t) (h2 : ∀ r ∈ l[i].rs.take j, r.time < t) (h3 : t ≤ l[i].rs[j].time) : sinceL l t = some l[i].rs[j] := by
  have e : l = l.take i ++ l[i] :: l.drop (i + 1) := by rw [List.getElem_cons_drop, List.take_append_drop]
  have e2 : l[i].rs = l[i].rs.take j ++ l[i].rs[j] :: l[i].rs.drop (j + 1) := by rw [List.getElem_cons_drop, List.take_append_drop]
  have n1 : ((l.take i).flatMap Bt.rs).find? (fun r => decide (t ≤ r.time)) = none := since_none h1
  have n2 : (l[i].rs.take j).find? (fun r => decide (t ≤ r.time)) = none := by
    rw [List.find?_eq_none]
    intro r hr
    have := h2 r hr
    simp
    omega
  unfold sinceL
  rw [show l.flatMap Bt.rs = (l.take i).flatMap Bt.rs ++ (l[i].rs ++ (l.drop (i + 1)).flatMap Bt.rs) by
    conv => lhs; rw [e]
    rw [List.flatMap_append, List.flatMap_cons]]
  rw [List.find?_append, n1, Option.none_or, List.find?_append]
  conv => lhs; arg 1; rw [e2]
  rw [List.find?_append, n2, Option.none_or, List.find?_cons_of_pos (by simpa using h3)]
  rfl
/-- Read at a batch's own offset is that batch. -/
theorem readL_one {n : Int} {l : List Bt} (hok : ∀ b ∈ l, b.Ok) (hup : rising n l) {k : Nat} (hk : k < l.length) : readL l l[k].base 0 = [l[k]] := by
  have h1 : l.dropWhile (fun b => decide (b.en ≤ l[k].base)) = l.drop k :=
    drop_search (Nat.le_of_lt hk) (fun i hi hik => rising_lt hok hup hk hik) (fun _ => (hok _ (List.getElem_mem hk)).nums.lt)
  unfold readL
  rw [h1, List.drop_eq_getElem_cons hk]
  unfold readGo
  rw [if_neg (fun h => by cases h.1)]
  congr 1
  have h2 := (hok _ (List.getElem_mem hk)).nums
  cases hd : l.drop (k + 1) with
  | nil => rfl
  | cons b r =>
    unfold readGo
    rw [if_pos]
    refine ⟨rfl, ?_⟩
    have h3 := h2.some
    have h4 := h2.len
    unfold wrap64
    omega


end Go.Proofs.YtdjmifaidgbbaaaGreatDoor
