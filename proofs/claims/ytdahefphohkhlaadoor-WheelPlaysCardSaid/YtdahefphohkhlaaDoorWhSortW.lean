/-
  Sorting timers: slices.SortFunc under the wheel's own comparison.
-/
import Derived.Test.YtdahefphohkhlaaDoorWhIntL
import Derived.Test.YtdahefphohkhlaaDoorShelf
set_option linter.unusedSimpArgs false
set_option linter.unusedVariables false
namespace Go.Proofs.YtdahefphohkhlaaDoor
open Go.RowKit Go.Maps Go.Sort Go.Shelf

/-- A timer whose numbers are within bounds. -/
structure BT where
  t : Tm
  ok : t.at' ≤ 1099511627776 ∧ t.num ≤ 1000000000
instance : Inhabited BT := ⟨⟨⟨0, 0, 0⟩, by decide⟩⟩
def encB (x : BT) : List Value := x.t.cells
def cfB (x y : BT) : Int := if x.t.at' ≠ y.t.at' then (x.t.at' : Int) - (y.t.at' : Int) else (x.t.num : Int) - (y.t.num : Int)
theorem ltB (x y : BT) : ltOf cfB x y = true ↔ ltT x.t y.t := by
  unfold ltOf cfB ltT
  by_cases h : x.t.at' = y.t.at'
  · simp [h]
    omega
  · simp [h]
    omega
theorem ltB_false (x y : BT) : ltOf cfB x y = false ↔ ¬ ltT x.t y.t := by rw [← ltB]; simp
theorem swoB : SWO (ltOf cfB) where
  irrefl x := by rw [ltB_false]; unfold ltT; omega
  trans x y z h1 h2 := by rw [ltB] at *; unfold ltT at *; omega
  ntrans x y z h1 h2 := by rw [ltB_false] at *; unfold ltT at *; omega

set_option maxRecDepth 100000 in
theorem cmp_any (x y : BT) (W : World) : Calls Tryd.prog 18 #[.agg #[.int .i64 (x.t.at' : Nat), .int .i64 x.t.id, .int .i64 (x.t.num : Nat)], .agg #[.int .i64 (y.t.at' : Nat), .int .i64 y.t.id, .int .i64 (y.t.num : Nat)]] W fun e w' => e = .returned (.int .i64 (cfB x y)) ∧ ∃ q os', w' = grow (W.drewN q) os' := by
  obtain ⟨x, hx⟩ := x
  obtain ⟨y, hy⟩ := y
  unfold cfB
  simp only
  generalize x.at' = a at *
  generalize y.at' = b at *
  generalize x.num = c at *
  generalize y.num = d at *
  go_enter Tryd.func18, Tryd.ntmps18
  by_cases h : a = b
  · have hi : (a : Int) = (b : Int) := by omega
    go_wp2_with fail
    go_ret
    refine ⟨by simp [h], 0, _, by rw [alloc_eq_grow, alloc_eq_grow, grow_grow]; rfl⟩
  · have hi : ¬ (a : Int) = (b : Int) := by omega
    go_wp2_with fail
    go_ret
    refine ⟨by simp [h], 0, _, by rw [alloc_eq_grow, alloc_eq_grow, grow_grow]; rfl⟩
theorem cmpLaysB (blk off size : Nat) (w : World) : CmpLays Tryd.prog 18 #[] encB 3 cfB blk off size w := fun _ _ _ _ x y => cmp_any x y _

theorem flatB (d : Array BT) : (flatK encB 3 d).toList = (d.toList.map BT.t).flatMap Tm.cells := by
  have hl : ∀ l : List Tm, (l.flatMap Tm.cells).length = l.length * 3 := by
    intro l
    induction l with
    | nil => rfl
    | cons t l ih => rw [List.flatMap_cons, List.length_append, ih, List.length_cons]; show 3 + _ = _; omega
  apply List.ext_getElem?
  intro i
  by_cases hi : i < d.size * 3
  · have hd : i / 3 < d.size := by omega
    have h1 : (flatK encB 3 d).toList[i]? = some ((encB d[i / 3]!)[i % 3]!) := by
      rw [← get_flatK encB 3 d i hi, Array.getElem?_toList, getElem!_pos _ _ (by simpa using hi), Array.getElem?_eq_getElem]
    rw [h1]
    have hlt : i / 3 < (d.toList.map BT.t).length := by simpa using hd
    have h2 := tmcells_get (d.toList.map BT.t) (i / 3) hlt (i % 3) ((encB d[i / 3]!)[i % 3]!) (by
      have e : (d.toList.map BT.t)[i / 3] = (d[i / 3]!).t := by
        rw [List.getElem_map, Array.getElem_toList, getElem!_pos d _ hd]
      rw [e]
      have h3 : i % 3 < (encB d[i / 3]!).length := by show i % 3 < 3; omega
      rw [getElem!_pos (encB d[i / 3]!) _ h3]
      exact List.getElem?_eq_getElem h3)
    rw [show i / 3 * 3 + i % 3 = i by omega] at h2
    exact h2.symm
  · rw [List.getElem?_eq_none (by rw [Array.length_toList, size_flatK]; omega), List.getElem?_eq_none (by rw [hl]; simp; omega)]
theorem heap_putRow {w : World} {g : Nat} {c : Array Value} {e : TypeId} {fr : Nat × Nat} (h : w.heap[g]? = some (.cells c e fr)) (F : Array Value) :
    (putRow id w g 0 F).heap[g]? = some (.cells (putCells id 0 F c) e fr) := by
  unfold putRow mapBlock
  simp [Array.getElem?_modify, h]
  rfl
theorem sortWorld_chg (w : World) (g n : Nat) (d : Array BT) (os : Array Obj) : Chg (fun i => i = g) w (sortWorldK encB 3 w g 0 n d os) := by
  unfold sortWorldK putRowK putRow mapBlock grow Go.Sort.ahead
  refine ⟨rfl, rfl, rfl, by simp, fun k hk hn => ?_⟩
  simp only
  rw [Array.getElem?_append_left (by simpa using hk)]
  rw [Array.getElem?_modify, if_neg (fun e => hn e.symm)]

set_option maxHeartbeats 1000000 in
/-- THE CONTRACT. -/
theorem sort_any {w : World} {v : Value} {l : List Tm} (h : OwnTm w v l) (hb : ∀ t ∈ l, t.at' ≤ 1099511627776 ∧ t.num ≤ 1000000000) (hlen : l.length ≤ 1000000) :
    Calls Tryd.prog 17 #[v, .func (.func 18) #[] #[]] w fun e w' => e = .returned (.tuple #[]) ∧
      ∃ l', List.Perm l' l ∧ l'.Pairwise (fun x y => ¬ ltT y x) ∧ OwnTm w' v l' ∧ Chg (Own v) w w' := by
  rcases h.2 with ⟨rfl, hn⟩ | ⟨g, cap, cur, rfl, hbg, hg, hnc, hcm, hcs, htake⟩
  · have hl : l = [] := List.eq_nil_of_length_eq_zero hn
    subst hl
    refine (AnyF.slices_SortFunc_none Tryd.sortT none 0 _ w).mono ?_
    rintro e w' ⟨rfl, rfl⟩
    exact ⟨rfl, [], List.Perm.refl _, List.Pairwise.nil, h, Chg.refl _ _⟩
  · obtain ⟨d, hd⟩ : ∃ d : Array BT, d.toList.map BT.t = l := ⟨(l.pmap BT.mk hb).toArray, by rw [List.map_pmap]; simp⟩
    have hds : d.size = l.length := by rw [← hd]; simp
    have eg : ∀ args w, (callFunc 18 args).run Tryd.prog w = .ok (.enter 18 args) w := enters_of Tryd.func18 (by kernel_rfl) rfl
    have hglt : g < w.heap.size := (Array.getElem?_eq_some_iff.1 hg).1
    have hH : HoldsK encB 3 w g 0 d := by
      intro j hj
      have hj' : j < d.size * 3 := by simpa using hj
      refine ⟨?_, by simp [World.frozen?, hg]⟩
      rw [Nat.zero_add, cell_of_row w g j cur _ (0, 0) hg]
      have h1 : (cur.toList.take (l.length * 3))[j]? = (l.flatMap Tm.cells)[j]? := by rw [htake]
      rw [List.getElem?_take, if_pos (by omega), ← hd, ← flatB, Array.getElem?_toList, Array.getElem?_toList] at h1
      rw [h1, getElem!_pos (flatK encB 3 d) j hj, Array.getElem?_eq_getElem hj]
      rfl
    have hcon := AnyQ.slices_SortFunc Tryd.sortT 3 Tryd.isAgg51 Tryd.sizeOf51 encB (fun _ => rfl) (fun x u hu => Tm.cells_one x.t u hu) cfB swoB 18 #[] g 0 cap d w eg (cmpLaysB g 0 d.size w) hH hglt (by omega)
    rw [hds] at hcon
    refine hcon.mono ?_
    rintro e w' ⟨rfl, d', n, os, hp, hs, rfl⟩
    obtain ⟨hp1, _, hp3⟩ := hp
    have ht : ∀ a : Array BT, a.size = l.length → a.extract 0 l.length = a := fun a ha => by rw [← ha]; simp
    rw [ht d hds, ht d' (by omega)] at hp3
    have hz' : (d'.toList.map BT.t).length = l.length := by simp; omega
    refine ⟨rfl, d'.toList.map BT.t, by rw [← hd]; exact hp3.map _, ?_, ⟨?_, .inr ⟨g, cap, putCells id 0 (flatK encB 3 d') cur, by rw [hz'], hbg, ?_, by omega, hcm, ?_, ?_⟩⟩, ?_⟩
    · rw [List.pairwise_map]
      rw [List.pairwise_iff_getElem]
      intro i j hi hj hij
      simp only [Array.length_toList] at hi hj
      have := hs i j (Nat.zero_le _) hij (by omega)
      rw [ltB_false, getElem!_pos d' i hi, getElem!_pos d' j hj] at this
      simpa using this
    · have := congrArg List.length (flatB d')
      rw [← this, Array.length_toList, size_flatK]
      simp
    · have h1 : (sortWorldK encB 3 w g 0 n d' os).heap[g]? = (putRow id (Go.Sort.ahead w n) g 0 (flatK encB 3 d')).heap[g]? := heap_grow_old _ _ (by unfold putRowK; rw [size_putRow]; exact hglt)
      rw [h1]
      exact heap_putRow (w := Go.Sort.ahead w n) hg _
    · unfold putCells; simp [hcs]
    · rw [hz', ← flatB d']
      apply List.ext_getElem?
      intro i
      rw [List.getElem?_take]
      by_cases hi : i < l.length * 3
      · have hF : i < (flatK encB 3 d').size := by rw [size_flatK]; omega
        have hc : i < cur.size := by
          have : l.length * 3 ≤ cap * 3 := Nat.mul_le_mul_right _ hnc
          omega
        rw [if_pos hi, Array.getElem?_toList, Array.getElem?_toList]
        unfold putCells
        rw [Array.getElem?_mapIdx, Array.getElem?_eq_getElem hc, Array.getElem?_eq_getElem hF]
        have hi' : i < d'.size * 3 := by omega
        simp [hi', getElem!_pos (flatK encB 3 d') i hF]
      · rw [if_neg hi, List.getElem?_eq_none (by rw [Array.length_toList, size_flatK]; omega)]
    · exact (sortWorld_chg w g n d' os).weak (fun i hi => .inl (by rw [hi]; rfl))
end Go.Proofs.YtdahefphohkhlaaDoor
