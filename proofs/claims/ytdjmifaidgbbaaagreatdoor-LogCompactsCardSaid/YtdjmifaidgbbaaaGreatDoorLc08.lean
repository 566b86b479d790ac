/-
  A segment in memory: its block, its places; Base, Next, Size, Batches, Latest.
-/
import Derived.Test.YtdjmifaidgbbaaaGreatDoorLc04
import Derived.Test.YtdjmifaidgbbaaaGreatDoorLc07
import Derived.Test.YtdjmifaidgbbaaaGreatDoorLc05
import Derived.Test.YtdjmifaidgbbaaaGreatDoorProg
import Derived.Tactics2
import Derived.StillTailTactics
import Derived.Deep.CutBlock
import Derived.Sort.BigQuietIn
import Derived.Test.YtdjmifaidgbbaaaGreatDoorLc06
set_option linter.unusedSimpArgs false
set_option linter.unusedVariables false
namespace Go.Proofs.YtdjmifaidgbbaaaGreatDoor
open Go.RowKit

/-- Where a batch lies. -/
structure Pl where
  at' : Nat
  size : Nat
  base : Int
  en : Int
  time : Int
def Pl.cells (p : Pl) : List Value := [.int .i64 (p.at' : Nat), .int .i64 (p.size : Nat), .int .i64 p.base, .int .i64 p.en, .int .i64 p.time]
theorem Pl.cells_one (p : Pl) : ∀ u ∈ p.cells, u.oneCell' = true := by
  intro u hu
  simp only [Pl.cells, List.mem_cons, List.not_mem_nil, or_false] at hu
  rcases hu with rfl | rfl | rfl | rfl | rfl <;> rfl
theorem fm_len {α : Type} {n : Nat} {f : α → List Value} (hf : ∀ a, (f a).length = n) : ∀ l : List α, (l.flatMap f).length = l.length * n
  | [] => by simp
  | a :: l => by rw [List.flatMap_cons, List.length_append, hf, fm_len hf l, List.length_cons, Nat.add_mul]; omega
theorem fm_get {α : Type} {n : Nat} {f : α → List Value} (hf : ∀ a, (f a).length = n) : ∀ (l : List α) (i : Nat) (hi : i < l.length) (j : Nat) (u : Value), (f l[i])[j]? = some u → (l.flatMap f)[i * n + j]? = some u
  | [], i, hi, _, _, _ => by simp at hi
  | a :: l, i, hi, j, u, hj => by
    rw [List.flatMap_cons]
    cases i with
    | zero =>
      have hl : j < (f a).length := (List.getElem?_eq_some_iff.1 hj).1
      rw [Nat.zero_mul, Nat.zero_add, List.getElem?_append_left hl]
      exact hj
    | succ i =>
      have e : (i + 1) * n + j = n + (i * n + j) := by rw [Nat.add_mul]; omega
      rw [e, List.getElem?_append_right (by rw [hf]; omega), hf, Nat.add_sub_cancel_left]
      exact fm_get hf l i (by simpa using hi) j u (by simpa using hj)
theorem plT : SliceT Tryz.prog 153 157 5 40 :=
  ⟨Tryz.underlying153, by
    have h : (Tryz.prog.info? 157).map (fun i => (i.zero, i.size, i.bytes)) = some (some (.agg #[.int .i64 0, .int .i64 0, .int .i64 0, .int .i64 0, .int .i64 0]), 5, 40) := by kernel_rfl
    obtain ⟨i, hi, hz, h1, h2⟩ := info_parts h
    exact ⟨i, _, hi, hz, rfl, h1, h2⟩⟩
/-- A slice of places that is the call's own. -/
def OwnP (w : World) (v : Value) (l : List Pl) : Prop := w.ownsRow 0 157 5 v l.length (l.flatMap Pl.cells)
theorem OwnP.nil (w : World) : OwnP w (.slice none 0 0) [] := World.ownsRow_nil w 0 _ 5
theorem OwnP.chg {S : Nat → Prop} {w w' : World} {v : Value} {l : List Pl} (h : OwnP w v l) (hc : Chg S w w') (hn : ∀ k, v.ownBlock = some k → ¬ S k) : OwnP w' v l := ownsRow_chg h hc hn
theorem OwnP.lt {w : World} {v : Value} {l : List Pl} (h : OwnP w v l) : ∀ k, v.ownBlock = some k → k < w.heap.size := ownsRow_lt h
theorem OwnP.val {w : World} {v : Value} {l : List Pl} (h : OwnP w v l) : ∃ a cap, v = .slice a l.length cap ∧ l.length ≤ cap ∧ (∀ x, a = some x → v.ownBlock = some x.block) ∧
    ∀ i (h : i < l.length), ∃ g, a = some ⟨g, 0, none⟩ ∧ ∀ j u, (l[i].cells)[j]? = some u → w.cell? ⟨g, i * 5 + j, none⟩ = some u := by
  rcases h.2 with ⟨rfl, hn⟩ | ⟨g, cap, cur, rfl, _, _, hle, _⟩
  · exact ⟨none, 0, by rw [hn], by omega, fun x hx => (by cases hx), fun i hi => absurd hi (by omega)⟩
  · have e1 : ∀ j, (⟨g, 0, none⟩ : Addr).add j = ⟨g, j, none⟩ := fun j => by unfold Addr.add; split <;> simp_all
    refine ⟨some ⟨g, 0, none⟩, cap, rfl, hle, fun x hx => (by cases hx; rfl), fun i hi => ⟨g, rfl, fun j u hj => ?_⟩⟩
    have := World.ownsRow.cells h (g := g) rfl (i * 5 + j) _ (fm_get (f := Pl.cells) (n := 5) (fun _ => rfl) l i hi j _ hj)
    rwa [e1] at this
theorem OwnP.form {w : World} {v : Value} {l : List Pl} (h : OwnP w v l) : v = .slice (vA v) l.length (vC v) := by
  obtain ⟨a, c, rfl, _⟩ := h.val
  rfl
theorem OwnP.row {w : World} {v : Value} {l : List Pl} (h : OwnP w v l) {k : Nat} (hk : v.ownBlock = some k) : ∃ cur, w.heap[k]? = some (.cells cur 157 (0, 0)) := by
  rcases h.2 with ⟨rfl, _⟩ | ⟨g, cap, cur, rfl, _, hg, _⟩
  · cases hk
  · obtain rfl : g = k := Option.some.inj hk
    exact ⟨cur, hg⟩

/-- A segment, plain. -/
structure Sg where
  name : List UInt8
  base : Int
  pls : List Pl
  size : Nat
def Sg.next (g : Sg) : Int := match g.pls.getLast? with | some p => p.en | none => g.base
def latestOf (l : List Pl) : Int := l.foldl (fun t p => max t p.time) (-1)
theorem latest_snoc (l : List Pl) {i : Nat} (hi : i < l.length) : latestOf (l.take (i + 1)) = max (latestOf (l.take i)) l[i].time := by
  unfold latestOf
  rw [List.take_succ_eq_append_getElem hi, List.foldl_append]
  rfl
/-- In this world the segment lies at block s, its disk at block p. -/
structure Sm (w : World) (s p : Nat) (v : Value) (g : Sg) : Prop where
  c : Box w s [.pointer (some ⟨p, 0, none⟩), .string ⟨g.name.toArray⟩, .int .i64 g.base, v, .int .i64 (g.size : Nat)] 155
  o : OwnP w v g.pls
def SHas (s : Nat) (v : Value) (k : Nat) : Prop := k = s ∨ v.ownBlock = some k
theorem Sm.lt {w : World} {s p : Nat} {v : Value} {g : Sg} (h : Sm w s p v g) : ∀ k, SHas s v k → k < w.heap.size := by
  rintro k (rfl | hk)
  · exact (Array.getElem?_eq_some_iff.1 h.c).1
  · exact h.o.lt k hk
theorem Sm.chg {S : Nat → Prop} {w w' : World} {s p : Nat} {v : Value} {g : Sg} (h : Sm w s p v g) (hc : Chg S w w') (hn : ∀ k, SHas s v k → ¬ S k) : Sm w' s p v g :=
  ⟨h.c.chg hc (hn _ (.inl rfl)), h.o.chg hc (fun k hk => hn _ (.inr hk))⟩
theorem Sm.ne {w : World} {s p : Nat} {v : Value} {g : Sg} (h : Sm w s p v g) : v.ownBlock ≠ some s := fun e => by
  have hq : w.heap[s]? = _ := h.c
  obtain ⟨cur, hcur⟩ := h.o.row e
  rw [hq] at hcur
  have := (Obj.cells.inj (Option.some.inj hcur)).2.1
  exact absurd this (by decide)

theorem sbase_any {w : World} {s p : Nat} {v : Value} {g : Sg} (h : Sm w s p v g) :
    Calls Tryz.prog 57 #[.pointer (some ⟨s, 0, none⟩)] w fun e w' => e = .returned (.int .i64 g.base) ∧ w' = w := by
  have c2 := h.c.cell (j := 2) rfl
  clear h
  go_enter Tryz.func57, Tryz.ntmps57
  go_wp2_with fail
  go_ret
  exact ⟨rfl, rfl⟩
theorem ssize_any {w : World} {s p : Nat} {v : Value} {g : Sg} (h : Sm w s p v g) :
    Calls Tryz.prog 59 #[.pointer (some ⟨s, 0, none⟩)] w fun e w' => e = .returned (.int .i64 (g.size : Nat)) ∧ w' = w := by
  have c2 := h.c.cell (j := 4) rfl
  clear h
  go_enter Tryz.func59, Tryz.ntmps59
  go_wp2_with fail
  go_ret
  exact ⟨rfl, rfl⟩

set_option maxHeartbeats 1000000 in
set_option maxRecDepth 20000 in
theorem snext_any {w : World} {s p : Nat} {v : Value} {g : Sg} (h : Sm w s p v g) (hn : g.pls.length ≤ 1000000) :
    Calls Tryz.prog 52 #[.pointer (some ⟨s, 0, none⟩)] w fun e w' => e = .returned (.int .i64 g.next) ∧ Chg Nil w w' := by
  have c2 := h.c.cell (j := 2) rfl
  have c3 := h.c.cell (j := 3) rfl
  obtain ⟨a, c, hv, _, _, hcell⟩ := h.o.val
  subst hv
  clear h
  by_cases h0 : g.pls.length = 0
  · have he : g.next = g.base := by unfold Sg.next; rw [List.length_eq_zero_iff.1 h0]; rfl
    have HE := Lib.hid he
    have hl0 : ((g.pls.length : Int) == 0) = true := by rw [h0]; rfl
    clear hcell he h0
    go_enter Tryz.func52, Tryz.ntmps52
    go_wp2_with fail
    go_ret
    rw [HE.out]
    exact ⟨rfl, Chg.refl _ _⟩
  · have hl0 : ((g.pls.length : Int) == 0) = false := beq_eq_false_iff_ne.2 (by omega)
    obtain ⟨b, rfl, hz⟩ := hcell (g.pls.length - 1) (by omega)
    have z3 := hz 3 _ rfl
    have he : g.next = (g.pls[g.pls.length - 1]'(by omega)).en := by
      unfold Sg.next
      rw [List.getLast?_eq_getElem?, List.getElem?_eq_getElem (by omega)]
    rw [he]
    obtain ⟨en, hen⟩ : ∃ en, (g.pls[g.pls.length - 1]'(by omega)).en = en := ⟨_, rfl⟩
    rw [hen] at z3 ⊢
    have hk0 : (1 : Int) ≤ (g.pls.length : Int) := by omega
    have hk1 : (g.pls.length : Int) - 1 < (g.pls.length : Int) := by omega
    clear hz he hen h0 hcell
    generalize g.pls.length = m at *
    go_enter Tryz.func52, Tryz.ntmps52
    go_upto_region 3 with fail
    refine wp_region_mono _ (Chg Nil) (by kernel_rfl) (fun _ _ _ h k => h.trans k (fun _ h => h.elim)) [[], [0], [1], [2], [], [4], [5], [6], [7], [8], [3, 9], [10], [11], [12]] rfl (by kernel_rfl) (Chg.refl _ _).drew ?_
    iterate 3 ((with_reducible apply Walk.eq); case h => (intro w2 hw2 N hN; simp only [depsOf, List.filterMap_nil, List.filterMap_cons, List.getElem?_toArray, List.getElem?_cons_zero, List.getElem?_cons_succ, Option.bind_some, List.nil_append, List.cons_append, Ob]; go_simp; (try go_bits); with_reducible exact hN _ (Chg.refl _ _)))
    ((with_reducible apply Walk.eq); case h => (intro w2 hw2 N hN; have hq := hw2.cell c3 (fun h => h); simp only [depsOf, List.filterMap_nil, List.filterMap_cons, List.getElem?_toArray, List.getElem?_cons_zero, List.getElem?_cons_succ, Option.bind_some, List.nil_append, List.cons_append, Ob]; go_simp; with_reducible exact hN _ (Chg.refl _ _)))
    iterate 3 ((with_reducible apply Walk.eq); case h => (intro w2 hw2 N hN; simp only [depsOf, List.filterMap_nil, List.filterMap_cons, List.getElem?_toArray, List.getElem?_cons_zero, List.getElem?_cons_succ, Option.bind_some, List.nil_append, List.cons_append, Ob]; go_simp; (try go_bits); with_reducible exact hN _ (Chg.refl _ _)))
    ((with_reducible apply Walk.eq); case h => (intro w2 hw2 N hN; have hq := hw2.cell c3 (fun h => h); simp only [depsOf, List.filterMap_nil, List.filterMap_cons, List.getElem?_toArray, List.getElem?_cons_zero, List.getElem?_cons_succ, Option.bind_some, List.nil_append, List.cons_append, Ob]; go_simp; with_reducible exact hN _ (Chg.refl _ _)))
    iterate 4 ((with_reducible apply Walk.eq); case h => (intro w2 hw2 N hN; simp only [depsOf, List.filterMap_nil, List.filterMap_cons, List.getElem?_toArray, List.getElem?_cons_zero, List.getElem?_cons_succ, Option.bind_some, List.nil_append, List.cons_append, Ob]; go_simp; (try go_bits); with_reducible exact hN _ (Chg.refl _ _)))
    ((with_reducible apply Walk.eq); case h => (intro w2 hw2 N hN; have hq := hw2.cell z3 (fun h => h); simp only [depsOf, List.filterMap_nil, List.filterMap_cons, List.getElem?_toArray, List.getElem?_cons_zero, List.getElem?_cons_succ, Option.bind_some, List.nil_append, List.cons_append, Ob]; go_simp; with_reducible exact hN _ (Chg.refl _ _)))
    ((with_reducible apply Walk.eq); case h => (intro w2 hw2 N hN; simp only [depsOf, List.filterMap_nil, List.filterMap_cons, List.getElem?_toArray, List.getElem?_cons_zero, List.getElem?_cons_succ, Option.bind_some, List.nil_append, List.cons_append, Ob]; go_simp; (try go_bits); with_reducible exact hN _ (Chg.refl _ _)))
    intro w6 hw6
    simp only [List.nil_append, List.cons_append, Fin]
    go_simp
    go_wp2_with fail
    go_ret
    exact ⟨rfl, hw6⟩
end Go.Proofs.YtdjmifaidgbbaaaGreatDoor

/-
  A segment in memory: Latest.
-/
set_option linter.unusedSimpArgs false
set_option linter.unusedVariables false
namespace Go.Proofs.YtdjmifaidgbbaaaGreatDoor
open Go.RowKit

theorem max_if (u q : Int) : (if u < q then q else u) = max u q := by split <;> omega
theorem meas_two {n i : Nat} (h : i < n) : n - (RowKit.intOf (Value.int .i64 ((i : Int) + 1))).toNat < n - (RowKit.intOf (Value.int .i64 (i : Int))).toNat := by
  show n - ((i : Int) + 1).toNat < n - (i : Int).toNat
  omega

set_option maxHeartbeats 1000000 in
set_option maxRecDepth 20000 in
theorem slatest_any {w : World} {s p : Nat} {v : Value} {g : Sg} (h : Sm w s p v g) (hn : g.pls.length ≤ 1000000) :
    Calls Tryz.prog 63 #[.pointer (some ⟨s, 0, none⟩)] w fun e w' => e = .returned (.int .i64 (latestOf g.pls)) ∧ Chg Nil w w' := by
  have c3 := h.c.cell (j := 3) rfl
  obtain ⟨a, c, hv, _, _, hcell⟩ := h.o.val
  subst hv
  have HCELL := Lib.hid hcell
  clear h hcell
  generalize g.pls = l at *
  go_enter Tryz.func63, Tryz.ntmps63
  go_wp2_with fail
  clear c3
  go_loopw [11, 3] (fun ii nn wr => ∃ (wq : World) (i : Nat), wq = wr ∧ i ≤ l.length ∧ ii = .int .i64 i ∧ nn = .int .i64 (latestOf (l.take i)) ∧ Chg Nil w wr) (fun ii _ _ => l.length - (RowKit.intOf ii).toNat)
  case atStart => exact ⟨_, 0, rfl, by omega, rfl, rfl, Chg.refl _ _⟩
  case round =>
    obtain ⟨wr, i, rfl, hi, rfl, rfl, hc⟩ := hrel
    have HC := Lib.hid hc
    clear hc
    by_cases hil : i < l.length
    · have hii : (i : Int) < (l.length : Int) := by omega
      have hi64 : wrap64 ((i : Int) + 1) = (i : Int) + 1 := by unfold wrap64; omega
      obtain ⟨b, rfl, hz⟩ := HCELL.out i hil
      have HNX := Lib.hid (latest_snoc l hil)
      obtain ⟨u, hu⟩ : ∃ u, latestOf (l.take i) = u := ⟨_, rfl⟩
      rw [hu] at HNX
      rw [hu]
      obtain ⟨q, hq⟩ : ∃ q, q = l[i] := ⟨_, rfl⟩
      rw [← hq] at hz HNX
      clear hu hq
      obtain ⟨qa, qs, qb, qe, qt⟩ := q
      have z0 := HC.out.cell (hz 0 _ rfl) (fun h => h)
      have z1 := HC.out.cell (hz 1 _ rfl) (fun h => h)
      have z2 := HC.out.cell (hz 2 _ rfl) (fun h => h)
      have z3 := HC.out.cell (hz 3 _ rfl) (fun h => h)
      have z4 := HC.out.cell (hz 4 _ rfl) (fun h => h)
      rw [Nat.add_zero] at z0
      clear hz
      have hbx := Box.new wr [.int .i64 (qa : Nat), .int .i64 (qs : Nat), .int .i64 qb, .int .i64 qe, .int .i64 qt] 157
      have HC2 := Lib.hid (HC.out.trans ((Chg.refl Nil wr).alloc (.cells #[.int .i64 (qa : Nat), .int .i64 (qs : Nat), .int .i64 qb, .int .i64 qe, .int .i64 qt] 157)) (fun _ h => h.elim))
      go_upto_region 5 with fail
      clear z0 z1 z2 z3 z4
      have hbx : Box (wr.alloc (.cells #[.int .i64 (qa : Nat), .int .i64 (qs : Nat), .int .i64 qb, .int .i64 qe, .int .i64 qt] 157)) wr.heap.size [.int .i64 (qa : Nat), .int .i64 (qs : Nat), .int .i64 qb, .int .i64 qe, .int .i64 qt] 157 := hbx
      generalize wr.alloc (.cells #[.int .i64 (qa : Nat), .int .i64 (qs : Nat), .int .i64 qb, .int .i64 qe, .int .i64 qt] 157) = w2 at *
      generalize wr.heap.size = g2 at *
      have y1 := hbx.cell (j := 4) rfl
      clear hbx
      go_wp2_with fail
      go_roundw
      case rel => exact ⟨_, i + 1, rfl, by omega, by go_num, by rw [HNX.out]; exact congrArg _ (max_if u qt), HC2.out⟩
      case measure => exact meas_two hil
    · have hii : ¬ (i : Int) < (l.length : Int) := by omega
      obtain rfl : i = l.length := by omega
      rw [List.take_length]
      go_wp2_with fail
      go_ret
      exact ⟨rfl, HC.out⟩
end Go.Proofs.YtdjmifaidgbbaaaGreatDoor

/-
  A segment in memory: note.
-/
set_option linter.unusedSimpArgs false
set_option linter.unusedVariables false
namespace Go.Proofs.YtdjmifaidgbbaaaGreatDoor
open Go.RowKit

/-- The greatest time of records (-1: there are none). -/
def timeOf (l : List Rec) : Int := l.foldl (fun t r => max t r.time) (-1)
theorem time_snoc (l : List Rec) {i : Nat} (hi : i < l.length) : timeOf (l.take (i + 1)) = max (timeOf (l.take i)) l[i].time := by
  unfold timeOf
  rw [List.take_succ_eq_append_getElem hi, List.foldl_append]
  rfl
def Sg.noted (g : Sg) (base en : Int) (rs : List Rec) (size : Nat) : Sg := { g with pls := g.pls ++ [⟨g.size, size, base, en, timeOf rs⟩], size := g.size + size }
/-- What the operations of an append of a place leave, one by one. -/
def PapF (n0 : Nat) (u : Value) (l : List Pl) (r : Pl) : List Value → World → Prop
  | [], w => OwnP w u l
  | [v], w => OwnP w u l ∧ ∃ q, v = .slice (some ⟨q, 0, none⟩) 1 1 ∧ Box w q r.cells 157
  | [_, v], w => OwnP w v (l ++ [r]) ∧ ∀ k, v.ownBlock = some k → u.ownBlock = some k ∨ n0 ≤ k
  | _, _ => False
theorem five_one (a b c d e : Int) : ∀ u ∈ ([.int .i64 a, .int .i64 b, .int .i64 c, .int .i64 d, .int .i64 e] : List Value), u.oneCell' = true := by
  intro u hu
  simp only [List.mem_cons, List.not_mem_nil, or_false] at hu
  rcases hu with rfl | rfl | rfl | rfl | rfl <;> rfl

set_option maxHeartbeats 4000000 in
set_option maxRecDepth 20000 in
theorem snote_any {w : World} {s p : Nat} {v : Value} {g : Sg} (h : Sm w s p v g) (hn : g.pls.length ≤ 100000) (base en : Int) (ra : Option Addr) (rs : List Rec) (rc : Nat) (hrs : RecsAt w ra rs) (hrl : rs.length ≤ 1000000)
    (size : Nat) (hsz : g.size + size ≤ 4611686018427387904) :
    Calls Tryz.prog 92 #[.pointer (some ⟨s, 0, none⟩), .agg #[.int .i64 base, .int .i64 en, .slice ra rs.length rc], .int .i64 (size : Nat)] w fun e w' =>
      e = .returned (.tuple #[]) ∧ ∃ v', Sm w' s p v' (g.noted base en rs size) ∧ Chg (SHas s v) w w' ∧ ∀ k, SHas s v' k → SHas s v k ∨ w.heap.size ≤ k := by
  have hbx := Box.new w [.int .i64 base, .int .i64 en, .slice ra rs.length rc] 112
  have hal := (Chg.refl Nil w).alloc (.cells #[.int .i64 base, .int .i64 en, .slice ra rs.length rc] 112)
  have HM := Lib.hid h
  have HM1 := Lib.hid (h.chg hal (fun _ _ h => h))
  have HRS := Lib.hid hrs
  have HN := Lib.hid hn
  have HSZ := Lib.hid hsz
  have c4 := HM1.out.c.cell (j := 4) rfl
  clear h hrs hn
  go_enter Tryz.func92, Tryz.ntmps92
  go_upto_region 1 with fail
  have hbx : Box (w.alloc (.cells #[.int .i64 base, .int .i64 en, .slice ra rs.length rc] 112)) w.heap.size [.int .i64 base, .int .i64 en, .slice ra rs.length rc] 112 := hbx
  have hs1 : (w.alloc (.cells #[.int .i64 base, .int .i64 en, .slice ra rs.length rc] 112)).heap.size = w.heap.size + 1 := by rw [World.size_alloc]
  generalize w.alloc (.cells #[.int .i64 base, .int .i64 en, .slice ra rs.length rc] 112) = w1 at *
  obtain ⟨gx, hgx⟩ : ∃ gx, w.heap.size = gx := ⟨_, rfl⟩
  rw [hgx] at hbx hs1
  rw [hgx]
  have HGX := Lib.hid hgx
  have HAL := Lib.hid hal
  have HS1 := Lib.hid hs1
  have HBX := Lib.hid hbx
  have x0 := hbx.cell (j := 0) rfl
  have x1 := hbx.cell (j := 1) rfl
  clear hgx hal hs1 hbx hsz
  refine Ch.wp_region_last _ _ rfl (Chg (Nil)) [] (fun _ _ => True) (by kernel_rfl) (fun _ => Chg.refl _ _) (fun _ _ _ h k => h.trans k (fun _ h => .inl h)) [[], [0], [1], [2], [], [], [5], [], [7], [3, 4, 6, 8], []] rfl (by kernel_rfl) (by kernel_rfl) (by kernel_rfl) (Chg.refl _ _).drew ?_ ?_
  · trivial
  simp only [List.dropLast_cons_cons, List.dropLast_singleton]
  iterate 3 ((with_reducible apply Ch.Walk.eq); (case hd => rfl); (case hi => rfl); case h => (intro w2 hw2 N hN; simp only [Ch.depsOf, List.filterMap_nil, List.filterMap_cons, List.getElem?_toArray, List.getElem?_cons_zero, List.getElem?_cons_succ, Option.bind_some, List.nil_append, List.cons_append, Ch.Ob]; go_simp; (try go_bits); with_reducible exact hN _ (Chg.refl _ _) (fun _ h => h)))
  ((with_reducible apply Ch.Walk.eq); (case hd => rfl); (case hi => rfl); case h => (intro w2 hw2 N hN; (have hq := hw2.cell c4 (fun h => h)); simp only [Ch.depsOf, List.filterMap_nil, List.filterMap_cons, List.getElem?_toArray, List.getElem?_cons_zero, List.getElem?_cons_succ, Option.bind_some, List.nil_append, List.cons_append, Ch.Ob]; go_simp; (try go_bits); with_reducible exact hN _ (Chg.refl _ _) (fun _ h => h)))
  iterate 2 ((with_reducible apply Ch.Walk.eq); (case hd => rfl); (case hi => rfl); case h => (intro w2 hw2 N hN; simp only [Ch.depsOf, List.filterMap_nil, List.filterMap_cons, List.getElem?_toArray, List.getElem?_cons_zero, List.getElem?_cons_succ, Option.bind_some, List.nil_append, List.cons_append, Ch.Ob]; go_simp; (try go_bits); with_reducible exact hN _ (Chg.refl _ _) (fun _ h => h)))
  ((with_reducible apply Ch.Walk.eq); (case hd => rfl); (case hi => rfl); case h => (intro w2 hw2 N hN; (have hq := hw2.cell x0 (fun h => h)); simp only [Ch.depsOf, List.filterMap_nil, List.filterMap_cons, List.getElem?_toArray, List.getElem?_cons_zero, List.getElem?_cons_succ, Option.bind_some, List.nil_append, List.cons_append, Ch.Ob]; go_simp; (try go_bits); with_reducible exact hN _ (Chg.refl _ _) (fun _ h => h)))
  ((with_reducible apply Ch.Walk.eq); (case hd => rfl); (case hi => rfl); case h => (intro w2 hw2 N hN; simp only [Ch.depsOf, List.filterMap_nil, List.filterMap_cons, List.getElem?_toArray, List.getElem?_cons_zero, List.getElem?_cons_succ, Option.bind_some, List.nil_append, List.cons_append, Ch.Ob]; go_simp; (try go_bits); with_reducible exact hN _ (Chg.refl _ _) (fun _ h => h)))
  ((with_reducible apply Ch.Walk.eq); (case hd => rfl); (case hi => rfl); case h => (intro w2 hw2 N hN; (have hq := hw2.cell x1 (fun h => h)); simp only [Ch.depsOf, List.filterMap_nil, List.filterMap_cons, List.getElem?_toArray, List.getElem?_cons_zero, List.getElem?_cons_succ, Option.bind_some, List.nil_append, List.cons_append, Ch.Ob]; go_simp; (try go_bits); with_reducible exact hN _ (Chg.refl _ _) (fun _ h => h)))
  ((with_reducible apply Ch.Walk.eq); (case hd => rfl); (case hi => rfl); case h => (intro w2 hw2 N hN; simp only [Ch.depsOf, List.filterMap_nil, List.filterMap_cons, List.getElem?_toArray, List.getElem?_cons_zero, List.getElem?_cons_succ, Option.bind_some, List.nil_append, List.cons_append, Ch.Ob]; go_simp; (try go_bits); with_reducible exact hN _ (Chg.refl _ _) (fun _ h => h)))
  refine Ch.Walk.sat (fun v w => ∃ b, v = .pointer (some ⟨b, 0, none⟩) ∧ w1.heap.size ≤ b ∧ Box w b [.int .i64 0, .int .i64 0, .int .i64 0, .int .i64 0, .int .i64 0] 157) ?_ rfl rfl ?_ ?_
  · rintro v w6 w7 ⟨b, rfl, hp, hbx⟩ hc
    exact ⟨b, rfl, hp, hbx.chg hc (fun h => h)⟩
  · intro w6 hw6 N hN
    simp only [Ch.depsOf, List.filterMap_nil, List.filterMap_cons, List.getElem?_toArray, List.getElem?_cons_zero, List.getElem?_cons_succ, Option.bind_some, List.nil_append, List.cons_append, Ch.Ob, Ch.chained_get, Option.map_some, List.idxOf?, List.findIdx?, List.findIdx?.go, Nat.reduceBEq, List.getD_cons_zero, List.getD_cons_succ, Nat.reduceAdd, if_true, if_false, Bool.false_eq_true]
    go_simp
    exact hN _ _ ⟨w6.heap.size, rfl, hw6.size, Box.new w6 [.int .i64 0, .int .i64 0, .int .i64 0, .int .i64 0, .int .i64 0] 157⟩ ((Chg.refl _ _).alloc _) (fun vs hF => trivial)
  intro w6 hw6
  simp only [List.nil_append, List.cons_append, Ch.Fin, List.map_cons, List.map_nil, List.getD_cons_zero, List.getD_cons_succ]
  rintro v9 ⟨b, rfl, hp, hbp⟩ _
  simp only [Ch.Then, Oper.wp]
  have b0 := hbp.cell (j := 0) rfl
  have f0 := hbp.free 0
  have b1 := hbp.cell (j := 1) rfl
  have f1 := hbp.free 1
  have b2 := hbp.cell (j := 2) rfl
  have f2 := hbp.free 2
  have b3 := hbp.cell (j := 3) rfl
  have f3 := hbp.free 3
  have b4 := hbp.cell (j := 4) rfl
  have f4 := hbp.free 4
  go_simp
  have hb9 : Box (((((w6.setCell ⟨b, 0, none⟩ (.int .i64 (g.size : Nat))).setCell ⟨b, 1, none⟩ (.int .i64 (size : Nat))).setCell ⟨b, 2, none⟩ (.int .i64 base)).setCell ⟨b, 3, none⟩ (.int .i64 en)).setCell ⟨b, 4, none⟩ (.int .i64 (-1))) b [.int .i64 (g.size : Nat), .int .i64 (size : Nat), .int .i64 base, .int .i64 en, .int .i64 (-1)] 157 := ((((hbp.set 0 _).set 1 _).set 2 _).set 3 _).set 4 _
  have hcs : Chg Nil w1 (((((w6.setCell ⟨b, 0, none⟩ (.int .i64 (g.size : Nat))).setCell ⟨b, 1, none⟩ (.int .i64 (size : Nat))).setCell ⟨b, 2, none⟩ (.int .i64 base)).setCell ⟨b, 3, none⟩ (.int .i64 en)).setCell ⟨b, 4, none⟩ (.int .i64 (-1))) :=
    ((((hw6.setCell (.inr hp) _).setCell (.inr hp) _).setCell (.inr hp) _).setCell (.inr hp) _).setCell (.inr hp) _
  clear b0 b1 b2 b3 b4 f0 f1 f2 f3 f4 hbp hw6
  generalize (((((w6.setCell ⟨b, 0, none⟩ (.int .i64 (g.size : Nat))).setCell ⟨b, 1, none⟩ (.int .i64 (size : Nat))).setCell ⟨b, 2, none⟩ (.int .i64 base)).setCell ⟨b, 3, none⟩ (.int .i64 en)).setCell ⟨b, 4, none⟩ (.int .i64 (-1))) = w2 at *
  have HB := Lib.hid hb9
  have HCS := Lib.hid hcs
  have HPB := Lib.hid hp
  have x2 := hcs.cell (HBX.out.cell (j := 2) rfl) (fun h => h)
  clear hb9 hcs hp c4 x0 x1
  go_wp2_with fail
  go_loopw [22] (fun ii wr => ∃ (wq : World) (i : Nat), wq = wr ∧ i ≤ rs.length ∧ ii = .int .i64 i ∧ Box wr b [.int .i64 (g.size : Nat), .int .i64 (size : Nat), .int .i64 base, .int .i64 en, .int .i64 (timeOf (rs.take i))] 157 ∧ Chg Nil w1 wr) (fun ii _ => rs.length - (RowKit.intOf ii).toNat)
  case atStart => exact ⟨_, 0, rfl, by omega, rfl, HB.out, HCS.out⟩
  case round =>
    obtain ⟨wr, i, rfl, hi, rfl, hb, hc⟩ := hrel
    have HBR := Lib.hid hb
    have HC := Lib.hid hc
    clear hb hc
    by_cases hil : i < rs.length
    · have hii : (i : Int) < (rs.length : Int) := by omega
      have hi64 : wrap64 ((i : Int) + 1) = (i : Int) + 1 := by unfold wrap64; omega
      obtain ⟨rb, off, rfl, hcell⟩ := HRS.out i hil
      have HNX := Lib.hid (time_snoc rs hil)
      obtain ⟨u, hu⟩ : ∃ u, timeOf (rs.take i) = u := ⟨_, rfl⟩
      rw [hu] at HNX HBR
      obtain ⟨q, hq⟩ : ∃ q, q = rs[i] := ⟨_, rfl⟩
      rw [← hq] at hcell HNX
      clear hu hq
      obtain ⟨qo, qt, qk, qkey, qg, qv⟩ := q
      have z0 := HC.out.cell (HAL.out.cell (hcell 0 _ rfl) (fun h => h)) (fun h => h)
      have z1 := HC.out.cell (HAL.out.cell (hcell 1 _ rfl) (fun h => h)) (fun h => h)
      have z2 := HC.out.cell (HAL.out.cell (hcell 2 _ rfl) (fun h => h)) (fun h => h)
      have z3 := HC.out.cell (HAL.out.cell (hcell 3 _ rfl) (fun h => h)) (fun h => h)
      have z4 := HC.out.cell (HAL.out.cell (hcell 4 _ rfl) (fun h => h)) (fun h => h)
      have z5 := HC.out.cell (HAL.out.cell (hcell 5 _ rfl) (fun h => h)) (fun h => h)
      rw [Nat.add_zero] at z0
      clear hcell
      have hbr := Box.new wr [.int .i64 qo, .int .i64 qt, .bool qk, .string qkey, .bool qg, .string qv] 37
      have halr := (Chg.refl Nil wr).alloc (.cells #[.int .i64 qo, .int .i64 qt, .bool qk, .string qkey, .bool qg, .string qv] 37)
      go_upto_region 5 with fail
      clear z0 z1 z2 z3 z4 z5
      have hbr : Box (wr.alloc (.cells #[.int .i64 qo, .int .i64 qt, .bool qk, .string qkey, .bool qg, .string qv] 37)) wr.heap.size [.int .i64 qo, .int .i64 qt, .bool qk, .string qkey, .bool qg, .string qv] 37 := hbr
      have HC2 := Lib.hid (HC.out.trans halr (fun _ h => h.elim))
      have HB2 := Lib.hid (HBR.out.chg halr (fun h => h))
      generalize wr.alloc (.cells #[.int .i64 qo, .int .i64 qt, .bool qk, .string qkey, .bool qg, .string qv] 37) = w4 at *
      generalize wr.heap.size = g4 at *
      have y1 := hbr.cell (j := 1) rfl
      have y4 := HB2.out.cell (j := 4) rfl
      have f4 := HB2.out.free 4
      clear hbr halr
      go_wp2_with fail
      go_roundw
      case rel =>
        refine ⟨_, i + 1, rfl, by omega, by go_num, ?_, HC2.out.setCell (.inr HPB.out) _⟩
        rw [HNX.out, ← max_if u qt]
        exact HB2.out.set 4 _
      case measure => exact meas_two hil
    · have hii : ¬ (i : Int) < (rs.length : Int) := by omega
      obtain rfl : i = rs.length := by omega
      have hbr := HBR.out
      rw [List.take_length] at hbr
      have HM2 := Lib.hid (HM1.out.chg HC.out (fun _ _ h => h))
      have HCW := Lib.hid (HAL.out.trans HC.out (fun _ h => h.elim))
      obtain ⟨tm, htm⟩ : ∃ tm, timeOf rs = tm := ⟨_, rfl⟩
      rw [htm] at hbr
      have HTM := Lib.hid htm
      have x0 := hbr.cell (j := 0) rfl
      have x1 := hbr.cell (j := 1) rfl
      have x2 := hbr.cell (j := 2) rfl
      have x3 := hbr.cell (j := 3) rfl
      have x4 := hbr.cell (j := 4) rfl
      have hcj := HM2.out.c.cell (j := 3) rfl
      have HNE := Lib.hid HM2.out.ne
      have HNG : Hid (¬ v.ownBlock = some b) := fun e => by have := HM1.out.lt b (.inr e); have := HPB.out; omega
      have HBB := Lib.hid hbr
      clear hbr htm
      go_upto_region 7 with fail
      refine Ch.wp_region_last2 _ _ rfl (Chg (fun i => v.ownBlock = some i)) [6, 7] (PapF wr.heap.size v g.pls ⟨g.size, size, base, en, tm⟩) (by kernel_rfl) (fun _ => Chg.refl _ _) (fun _ _ _ h k => h.trans k (fun _ h => .inl h)) [[], [], [1], [2], [3], [], [5], [4, 6], [0], [8]] rfl (by kernel_rfl) (by kernel_rfl) (by kernel_rfl) (Chg.refl _ _).drew ?_ ?_
      · exact HM2.out.o.chg (Chg.refl Nil _).drew (fun _ _ h => h)
      simp only [List.dropLast_cons_cons, List.dropLast_singleton]
      iterate 4 ((with_reducible apply Ch.Walk.eq); (case hd => rfl); (case hi => rfl); case h => (intro w2 hw2 N hN; simp only [Ch.depsOf, List.filterMap_nil, List.filterMap_cons, List.getElem?_toArray, List.getElem?_cons_zero, List.getElem?_cons_succ, Option.bind_some, List.nil_append, List.cons_append, Ch.Ob]; go_simp; (try go_bits); with_reducible exact hN _ (Chg.refl _ _) (fun _ h => h)))
      ((with_reducible apply Ch.Walk.eq); (case hd => rfl); (case hi => rfl); case h => (intro w2 hw2 N hN; (have hq := hw2.cell hcj (fun e => HNE.out e)); simp only [Ch.depsOf, List.filterMap_nil, List.filterMap_cons, List.getElem?_toArray, List.getElem?_cons_zero, List.getElem?_cons_succ, Option.bind_some, List.nil_append, List.cons_append, Ch.Ob]; go_simp; (try go_bits); with_reducible exact hN _ (Chg.refl _ _) (fun _ h => h)))
      ((with_reducible apply Ch.Walk.eq); (case hd => rfl); (case hi => rfl); case h => (intro w2 hw2 N hN; (have hx0 := hw2.cell x0 (fun e => HNG.out e); have hx1 := hw2.cell x1 (fun e => HNG.out e); have hx2 := hw2.cell x2 (fun e => HNG.out e); have hx3 := hw2.cell x3 (fun e => HNG.out e); have hx4 := hw2.cell x4 (fun e => HNG.out e)); simp only [Ch.depsOf, List.filterMap_nil, List.filterMap_cons, List.getElem?_toArray, List.getElem?_cons_zero, List.getElem?_cons_succ, Option.bind_some, List.nil_append, List.cons_append, Ch.Ob]; go_simp; (try go_bits); with_reducible exact hN _ (Chg.refl _ _) (fun _ h => h)))
      refine Ch.Walk.chain 0 rfl rfl ?_ ?_
      · intro w8 hw8 vs hvs hF N hN
        obtain rfl := List.eq_nil_of_length_eq_zero hvs
        simp only [Ch.depsOf, List.filterMap_nil, List.filterMap_cons, List.getElem?_toArray, List.getElem?_cons_zero, List.getElem?_cons_succ, Option.bind_some, List.nil_append, List.cons_append, Ch.Ob, Ch.chained_get, Option.map_some, List.idxOf?, List.findIdx?, List.findIdx?.go, Nat.reduceBEq, List.getD_cons_zero, List.getD_cons_succ, Nat.reduceAdd, if_true, if_false, Bool.false_eq_true]
        go_simp
        have hal := (Chg.refl Nil w8).alloc (.cells #[.int .i64 (g.size : Nat), .int .i64 (size : Nat), .int .i64 base, .int .i64 en, .int .i64 tm] 157)
        exact hN _ _ (hal.weak (fun _ h => h.elim)) ⟨OwnP.chg hF hal (fun _ _ h => h), w8.heap.size, rfl, Box.new w8 [.int .i64 (g.size : Nat), .int .i64 (size : Nat), .int .i64 base, .int .i64 en, .int .i64 tm] _⟩
      refine Ch.Walk.chain 1 rfl rfl ?_ ?_
      · intro w8 hw8 vs hvs hF N hN
        obtain ⟨v1, rfl⟩ := List.length_eq_one_iff.1 hvs
        simp only [Ch.depsOf, List.filterMap_nil, List.filterMap_cons, List.getElem?_toArray, List.getElem?_cons_zero, List.getElem?_cons_succ, Option.bind_some, List.nil_append, List.cons_append, Ch.Ob, Ch.chained_get, Option.map_some, List.idxOf?, List.findIdx?, List.findIdx?.go, Nat.reduceBEq, List.getD_cons_zero, List.getD_cons_succ, Nat.reduceAdd, if_true, if_false, Bool.false_eq_true]
        obtain ⟨f1, q8, rfl, f3⟩ := hF
        have hz3 := hw8.size
        refine Ch.if_append_row rfl (.tmp 37) (.tmp 39) 153 153 rfl plT _ Tryz.underlying153 (by intro _; simp) v g.pls.length (g.pls.flatMap Pl.cells) rfl f1 (.slice (some ⟨q8, 0, none⟩) 1 1) 1 (Pl.cells ⟨g.size, size, base, en, tm⟩) rfl (Source.box f3 rfl (Pl.cells_one _)) (by have := HN.out; unfold maxLen; omega) (by have := HN.out; omega) (fun v' w' h1 h2 => hN _ _ h2.chg ?_)
        refine ⟨?_, fun k hk => (h2.own k hk).imp id fun h => ?_⟩
        · unfold OwnP
          rw [List.length_append, List.flatMap_append, List.flatMap_cons, List.flatMap_nil, List.append_nil]
          exact h1
        · have hz3 : wr.heap.size ≤ w8.heap.size := hz3
          omega
      iterate 2 ((with_reducible apply Ch.Walk.eq); (case hd => rfl); (case hi => rfl); case h => (intro w2 hw2 N hN; simp only [Ch.depsOf, List.filterMap_nil, List.filterMap_cons, List.getElem?_toArray, List.getElem?_cons_zero, List.getElem?_cons_succ, Option.bind_some, List.nil_append, List.cons_append, Ch.Ob]; go_simp; (try go_bits); with_reducible exact hN _ (Chg.refl _ _) (fun _ h => h)))
      intro w8 hw8
      simp only [List.nil_append, List.cons_append, Ch.Fin, List.map_cons, List.map_nil, List.getD_cons_zero, List.getD_cons_succ]
      intro v5 _ v8 _ hF
      have f1 : OwnP w8 v8 (g.pls ++ [⟨g.size, size, base, en, tm⟩]) := hF.1
      have f2 : ∀ k, v8.ownBlock = some k → v.ownBlock = some k ∨ wr.heap.size ≤ k := hF.2
      clear hF
      have hw8 : Chg (fun i => v.ownBlock = some i) wr w8 := hw8
      generalize hrs8 : g.pls ++ [(⟨g.size, size, base, en, tm⟩ : Pl)] = l8 at f1
      have hv8 := f1.form
      generalize vA v8 = a8 at hv8
      generalize vC v8 = c8 at hv8
      subst hv8
      simp only [Ch.Then, Oper.wp]
      have hcb := HM2.out.c.chg hw8 HNE.out
      have hcp := hcb.cell (j := 3) rfl
      have hcf := hcb.free 3
      have hcp4 := hcb.cell (j := 4) rfl
      have hcf4 := hcb.free 4
      have HCB := Lib.hid hcb
      have HF1 := Lib.hid f1
      have HF2 := Lib.hid f2
      have HW8 := Lib.hid hw8
      have HL8 := Lib.hid hrs8.symm
      have hw64 : wrap64 ((g.size : Int) + (size : Int)) = (g.size : Int) + (size : Int) := by have := HSZ.out; unfold wrap64; omega
      clear f1 f2 hw8 hrs8 hcb x0 x1 x2 x3 x4 hcj hii hi
      go_simp
      go_wp2_with fail
      go_end0
      have hlen : l8.length = g.pls.length + 1 := by rw [HL8.out, List.length_append]; rfl
      have hns : ∀ k, (Value.slice a8 l8.length c8).ownBlock = some k → ¬ k = s := fun k hk e => by
        subst e
        exact (HF2.out k hk).elim (fun h => HNE.out h) (fun h => by have := HM2.out.lt k (.inl rfl); omega)
      have hs9 : Chg (fun k => k = s) w8 ((w8.setCell ⟨s, 3, none⟩ (.slice a8 l8.length c8)).setCell ⟨s, 4, none⟩ (.int .i64 ((g.size : Int) + (size : Int)))) :=
        ((Chg.refl (fun k => k = s) w8).setCell (p := ⟨s, 3, none⟩) (.inl rfl) _).setCell (p := ⟨s, 4, none⟩) (.inl rfl) _
      refine ⟨rfl, .slice a8 l8.length c8, ⟨?_, ?_⟩, ?_, ?_⟩
      · have h9 := (HCB.out.set 3 (.slice a8 l8.length c8)).set 4 (.int .i64 ((g.size : Int) + (size : Int)))
        have e9 : ((g.noted base en rs size).size : Int) = (g.size : Int) + (size : Int) := by show ((g.size + size : Nat) : Int) = _; omega
        rw [e9]
        exact h9
      · have h9 := HF1.out.chg hs9 hns
        have e9 : (g.noted base en rs size).pls = l8 := by rw [HL8.out, ← HTM.out]; rfl
        rw [e9]
        exact h9
      · exact ((HCW.out.weak (fun _ h => h.elim)).trans HW8.out (fun k hk => .inl (.inr hk))).trans hs9 (fun k hk => .inl (.inl hk))
      · rintro k (hk | hk)
        · exact .inl (.inl hk)
        · exact (HF2.out k hk).imp .inr (fun h => by have := HCW.out.size; omega)
end Go.Proofs.YtdjmifaidgbbaaaGreatDoor
