/-
  A segment in memory: its block, its places; Base, Next, Size, Batches, Latest.
-/
import Derived.Test.YtmaomebnigcgeaaGreatDoorBoxG
import Derived.Test.YtmaomebnigcgeaaGreatDoorMono
import Derived.Test.YtmaomebnigcgeaaGreatDoorNamesL
import Derived.Test.YtmaomebnigcgeaaGreatDoorProg
import Derived.Tactics2
import Derived.StillTailTactics
import Derived.Deep.CutBlock
import Derived.Sort.BigQuietIn
set_option linter.unusedSimpArgs false
set_option linter.unusedVariables false
namespace Go.Proofs.YtmaomebnigcgeaaGreatDoor
open Go.RowKit

/-- Where a batch lies. -/
structure Pl where
  at' : Nat
  size : Nat
  base : Int
  en : Int
  time : Int
def Pl.cells (p : Pl) : List Value := [.int .i64 (p.at' : Nat), .int .i64 (p.size : Nat), .int .i64 p.base, .int .i64 p.en, .int .i64 p.time]
theorem Pl.cells_one (p : Pl) : ∀ u ∈ p.cells, u.oneCell' = true := by
  intro u hu
  simp only [Pl.cells, List.mem_cons, List.not_mem_nil, or_false] at hu
  rcases hu with rfl | rfl | rfl | rfl | rfl <;> rfl
theorem fm_len {α : Type} {n : Nat} {f : α → List Value} (hf : ∀ a, (f a).length = n) : ∀ l : List α, (l.flatMap f).length = l.length * n
  | [] => by simp
  | a :: l => by rw [List.flatMap_cons, List.length_append, hf, fm_len hf l, List.length_cons, Nat.add_mul]; omega
theorem fm_get {α : Type} {n : Nat} {f : α → List Value} (hf : ∀ a, (f a).length = n) : ∀ (l : List α) (i : Nat) (hi : i < l.length) (j : Nat) (u : Value), (f l[i])[j]? = some u → (l.flatMap f)[i * n + j]? = some u
  | [], i, hi, _, _, _ => by simp at hi
  | a :: l, i, hi, j, u, hj => by
    rw [List.flatMap_cons]
    cases i with
    | zero =>
      have hl : j < (f a).length := (List.getElem?_eq_some_iff.1 hj).1
      rw [Nat.zero_mul, Nat.zero_add, List.getElem?_append_left hl]
      exact hj
    | succ i =>
      have e : (i + 1) * n + j = n + (i * n + j) := by rw [Nat.add_mul]; omega
      rw [e, List.getElem?_append_right (by rw [hf]; omega), hf, Nat.add_sub_cancel_left]
      exact fm_get hf l i (by simpa using hi) j u (by simpa using hj)
theorem plT : SliceT Tryz.prog 78 94 5 40 :=
  ⟨Tryz.underlying78, by
    have h : (Tryz.prog.info? 94).map (fun i => (i.zero, i.size, i.bytes)) = some (some (.agg #[.int .i64 0, .int .i64 0, .int .i64 0, .int .i64 0, .int .i64 0]), 5, 40) := by kernel_rfl
    obtain ⟨i, hi, hz, h1, h2⟩ := info_parts h
    exact ⟨i, _, hi, hz, rfl, h1, h2⟩⟩
/-- A slice of places that is the call's own. -/
def OwnP (w : World) (v : Value) (l : List Pl) : Prop := w.ownsRow 0 94 5 v l.length (l.flatMap Pl.cells)
theorem OwnP.nil (w : World) : OwnP w (.slice none 0 0) [] := World.ownsRow_nil w 0 _ 5
theorem OwnP.chg {S : Nat → Prop} {w w' : World} {v : Value} {l : List Pl} (h : OwnP w v l) (hc : Chg S w w') (hn : ∀ k, v.ownBlock = some k → ¬ S k) : OwnP w' v l := ownsRow_chg h hc hn
theorem OwnP.lt {w : World} {v : Value} {l : List Pl} (h : OwnP w v l) : ∀ k, v.ownBlock = some k → k < w.heap.size := ownsRow_lt h
theorem OwnP.val {w : World} {v : Value} {l : List Pl} (h : OwnP w v l) : ∃ a cap, v = .slice a l.length cap ∧ l.length ≤ cap ∧ (∀ x, a = some x → v.ownBlock = some x.block) ∧
    ∀ i (h : i < l.length), ∃ g, a = some ⟨g, 0, none⟩ ∧ ∀ j u, (l[i].cells)[j]? = some u → w.cell? ⟨g, i * 5 + j, none⟩ = some u := by
  rcases h.2 with ⟨rfl, hn⟩ | ⟨g, cap, cur, rfl, _, _, hle, _⟩
  · exact ⟨none, 0, by rw [hn], by omega, fun x hx => (by cases hx), fun i hi => absurd hi (by omega)⟩
  · have e1 : ∀ j, (⟨g, 0, none⟩ : Addr).add j = ⟨g, j, none⟩ := fun j => by unfold Addr.add; split <;> simp_all
    refine ⟨some ⟨g, 0, none⟩, cap, rfl, hle, fun x hx => (by cases hx; rfl), fun i hi => ⟨g, rfl, fun j u hj => ?_⟩⟩
    have := World.ownsRow.cells h (g := g) rfl (i * 5 + j) _ (fm_get (f := Pl.cells) (n := 5) (fun _ => rfl) l i hi j _ hj)
    rwa [e1] at this
theorem OwnP.form {w : World} {v : Value} {l : List Pl} (h : OwnP w v l) : v = .slice (vA v) l.length (vC v) := by
  obtain ⟨a, c, rfl, _⟩ := h.val
  rfl
theorem OwnP.row {w : World} {v : Value} {l : List Pl} (h : OwnP w v l) {k : Nat} (hk : v.ownBlock = some k) : ∃ cur, w.heap[k]? = some (.cells cur 94 (0, 0)) := by
  rcases h.2 with ⟨rfl, _⟩ | ⟨g, cap, cur, rfl, _, hg, _⟩
  · cases hk
  · obtain rfl : g = k := Option.some.inj hk
    exact ⟨cur, hg⟩

/-- A segment, plain. -/
structure Sg where
  name : List UInt8
  base : Int
  pls : List Pl
  size : Nat
def Sg.next (g : Sg) : Int := match g.pls.getLast? with | some p => p.en | none => g.base
def latestOf (l : List Pl) : Int := l.foldl (fun t p => max t p.time) (-1)
theorem latest_snoc (l : List Pl) {i : Nat} (hi : i < l.length) : latestOf (l.take (i + 1)) = max (latestOf (l.take i)) l[i].time := by
  unfold latestOf
  rw [List.take_succ_eq_append_getElem hi, List.foldl_append]
  rfl
/-- In this world the segment lies at block s, its disk at block p. -/
structure Sm (w : World) (s p : Nat) (v : Value) (g : Sg) : Prop where
  c : Box w s [.pointer (some ⟨p, 0, none⟩), .string ⟨g.name.toArray⟩, .int .i64 g.base, v, .int .i64 (g.size : Nat)] 80
  o : OwnP w v g.pls
def SHas (s : Nat) (v : Value) (k : Nat) : Prop := k = s ∨ v.ownBlock = some k
theorem Sm.lt {w : World} {s p : Nat} {v : Value} {g : Sg} (h : Sm w s p v g) : ∀ k, SHas s v k → k < w.heap.size := by
  rintro k (rfl | hk)
  · exact (Array.getElem?_eq_some_iff.1 h.c).1
  · exact h.o.lt k hk
theorem Sm.chg {S : Nat → Prop} {w w' : World} {s p : Nat} {v : Value} {g : Sg} (h : Sm w s p v g) (hc : Chg S w w') (hn : ∀ k, SHas s v k → ¬ S k) : Sm w' s p v g :=
  ⟨h.c.chg hc (hn _ (.inl rfl)), h.o.chg hc (fun k hk => hn _ (.inr hk))⟩
theorem Sm.ne {w : World} {s p : Nat} {v : Value} {g : Sg} (h : Sm w s p v g) : v.ownBlock ≠ some s := fun e => by
  have hq : w.heap[s]? = _ := h.c
  obtain ⟨cur, hcur⟩ := h.o.row e
  rw [hq] at hcur
  have := (Obj.cells.inj (Option.some.inj hcur)).2.1
  exact absurd this (by decide)

theorem sbase_any {w : World} {s p : Nat} {v : Value} {g : Sg} (h : Sm w s p v g) :
    Calls Tryz.prog 17 #[.pointer (some ⟨s, 0, none⟩)] w fun e w' => e = .returned (.int .i64 g.base) ∧ w' = w := by
  have c2 := h.c.cell (j := 2) rfl
  clear h
  go_enter Tryz.func17, Tryz.ntmps17
  go_wp2_with fail
  go_ret
  exact ⟨rfl, rfl⟩
theorem ssize_any {w : World} {s p : Nat} {v : Value} {g : Sg} (h : Sm w s p v g) :
    Calls Tryz.prog 19 #[.pointer (some ⟨s, 0, none⟩)] w fun e w' => e = .returned (.int .i64 (g.size : Nat)) ∧ w' = w := by
  have c2 := h.c.cell (j := 4) rfl
  clear h
  go_enter Tryz.func19, Tryz.ntmps19
  go_wp2_with fail
  go_ret
  exact ⟨rfl, rfl⟩
theorem sbatches_any {w : World} {s p : Nat} {v : Value} {g : Sg} (h : Sm w s p v g) :
    Calls Tryz.prog 20 #[.pointer (some ⟨s, 0, none⟩)] w fun e w' => e = .returned (.int .i64 (g.pls.length : Nat)) ∧ w' = w := by
  have c2 := h.c.cell (j := 3) rfl
  obtain ⟨a, c, hv, _⟩ := h.o.val
  subst hv
  clear h
  go_enter Tryz.func20, Tryz.ntmps20
  go_wp2_with fail
  go_ret
  exact ⟨rfl, rfl⟩

set_option maxHeartbeats 1000000 in
set_option maxRecDepth 20000 in
theorem snext_any {w : World} {s p : Nat} {v : Value} {g : Sg} (h : Sm w s p v g) (hn : g.pls.length ≤ 1000000) :
    Calls Tryz.prog 18 #[.pointer (some ⟨s, 0, none⟩)] w fun e w' => e = .returned (.int .i64 g.next) ∧ Chg Nil w w' := by
  have c2 := h.c.cell (j := 2) rfl
  have c3 := h.c.cell (j := 3) rfl
  obtain ⟨a, c, hv, _, _, hcell⟩ := h.o.val
  subst hv
  clear h
  by_cases h0 : g.pls.length = 0
  · have he : g.next = g.base := by unfold Sg.next; rw [List.length_eq_zero_iff.1 h0]; rfl
    have HE := Lib.hid he
    have hl0 : ((g.pls.length : Int) == 0) = true := by rw [h0]; rfl
    clear hcell he h0
    go_enter Tryz.func18, Tryz.ntmps18
    go_wp2_with fail
    go_ret
    rw [HE.out]
    exact ⟨rfl, Chg.refl _ _⟩
  · have hl0 : ((g.pls.length : Int) == 0) = false := beq_eq_false_iff_ne.2 (by omega)
    obtain ⟨b, rfl, hz⟩ := hcell (g.pls.length - 1) (by omega)
    have z3 := hz 3 _ rfl
    have he : g.next = (g.pls[g.pls.length - 1]'(by omega)).en := by
      unfold Sg.next
      rw [List.getLast?_eq_getElem?, List.getElem?_eq_getElem (by omega)]
    rw [he]
    obtain ⟨en, hen⟩ : ∃ en, (g.pls[g.pls.length - 1]'(by omega)).en = en := ⟨_, rfl⟩
    rw [hen] at z3 ⊢
    have hk0 : (1 : Int) ≤ (g.pls.length : Int) := by omega
    have hk1 : (g.pls.length : Int) - 1 < (g.pls.length : Int) := by omega
    clear hz he hen h0 hcell
    generalize g.pls.length = m at *
    go_enter Tryz.func18, Tryz.ntmps18
    go_upto_region 3 with fail
    refine wp_region_mono _ (Chg Nil) (by kernel_rfl) (fun _ _ _ h k => h.trans k (fun _ h => h.elim)) [[], [0], [1], [2], [], [4], [5], [6], [7], [8], [3, 9], [10], [11], [12]] rfl (by kernel_rfl) (Chg.refl _ _).drew ?_
    iterate 3 ((with_reducible apply Walk.eq); case h => (intro w2 hw2 N hN; simp only [depsOf, List.filterMap_nil, List.filterMap_cons, List.getElem?_toArray, List.getElem?_cons_zero, List.getElem?_cons_succ, Option.bind_some, List.nil_append, List.cons_append, Ob]; go_simp; (try go_bits); with_reducible exact hN _ (Chg.refl _ _)))
    ((with_reducible apply Walk.eq); case h => (intro w2 hw2 N hN; have hq := hw2.cell c3 (fun h => h); simp only [depsOf, List.filterMap_nil, List.filterMap_cons, List.getElem?_toArray, List.getElem?_cons_zero, List.getElem?_cons_succ, Option.bind_some, List.nil_append, List.cons_append, Ob]; go_simp; with_reducible exact hN _ (Chg.refl _ _)))
    iterate 3 ((with_reducible apply Walk.eq); case h => (intro w2 hw2 N hN; simp only [depsOf, List.filterMap_nil, List.filterMap_cons, List.getElem?_toArray, List.getElem?_cons_zero, List.getElem?_cons_succ, Option.bind_some, List.nil_append, List.cons_append, Ob]; go_simp; (try go_bits); with_reducible exact hN _ (Chg.refl _ _)))
    ((with_reducible apply Walk.eq); case h => (intro w2 hw2 N hN; have hq := hw2.cell c3 (fun h => h); simp only [depsOf, List.filterMap_nil, List.filterMap_cons, List.getElem?_toArray, List.getElem?_cons_zero, List.getElem?_cons_succ, Option.bind_some, List.nil_append, List.cons_append, Ob]; go_simp; with_reducible exact hN _ (Chg.refl _ _)))
    iterate 4 ((with_reducible apply Walk.eq); case h => (intro w2 hw2 N hN; simp only [depsOf, List.filterMap_nil, List.filterMap_cons, List.getElem?_toArray, List.getElem?_cons_zero, List.getElem?_cons_succ, Option.bind_some, List.nil_append, List.cons_append, Ob]; go_simp; (try go_bits); with_reducible exact hN _ (Chg.refl _ _)))
    ((with_reducible apply Walk.eq); case h => (intro w2 hw2 N hN; have hq := hw2.cell z3 (fun h => h); simp only [depsOf, List.filterMap_nil, List.filterMap_cons, List.getElem?_toArray, List.getElem?_cons_zero, List.getElem?_cons_succ, Option.bind_some, List.nil_append, List.cons_append, Ob]; go_simp; with_reducible exact hN _ (Chg.refl _ _)))
    ((with_reducible apply Walk.eq); case h => (intro w2 hw2 N hN; simp only [depsOf, List.filterMap_nil, List.filterMap_cons, List.getElem?_toArray, List.getElem?_cons_zero, List.getElem?_cons_succ, Option.bind_some, List.nil_append, List.cons_append, Ob]; go_simp; (try go_bits); with_reducible exact hN _ (Chg.refl _ _)))
    intro w6 hw6
    simp only [List.nil_append, List.cons_append, Fin]
    go_simp
    go_wp2_with fail
    go_ret
    exact ⟨rfl, hw6⟩
end Go.Proofs.YtmaomebnigcgeaaGreatDoor
