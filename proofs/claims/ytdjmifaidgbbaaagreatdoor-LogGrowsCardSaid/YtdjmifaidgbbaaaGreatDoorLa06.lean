/-
  Names: which texts may be names: plain data. A text is all of some bytes just if nothing is left when these are trimmed.
-/
import Derived.Lib.SlTrimSet
import Derived.Lib.Bytealg
import Derived.Test.YtdjmifaidgbbaaaGreatDoorLa04
import Derived.Test.YtdjmifaidgbbaaaGreatDoorLa05
import Derived.Test.YtdjmifaidgbbaaaGreatDoorProg
import Derived.Tactics2
import Derived.StillTailTactics
import Derived.Deep.CutBlock
import Derived.Sort.BigQuietIn
namespace Go.Proofs.YtdjmifaidgbbaaaGreatDoor

def cutDisk : List UInt8 := [97, 98, 99, 100, 101, 102, 103, 104, 105, 106, 107, 108, 109, 110, 111, 112, 113, 114, 115, 116, 117, 118, 119, 120, 121, 122, 48, 49, 50, 51, 52, 53, 54, 55, 56, 57, 45, 46, 47]
def cutTopic : List UInt8 := [97, 98, 99, 100, 101, 102, 103, 104, 105, 106, 107, 108, 109, 110, 111, 112, 113, 114, 115, 116, 117, 118, 119, 120, 121, 122, 48, 49, 50, 51, 52, 53, 54, 55, 56, 57]
/-- Whether a text may be a name: of 1 to 'most' bytes of these. -/
def nameOk (most : Nat) (cs : List UInt8) (l : List UInt8) : Bool := !l.isEmpty && decide (l.length ≤ most) && l.all (cs.contains ·)

theorem dropWhile_nil {p : UInt8 → Bool} : ∀ {l : List UInt8}, l.dropWhile p = [] ↔ l.all p = true
  | [] => by simp
  | a :: l => by
    rw [List.dropWhile_cons]
    by_cases h : p a = true
    · rw [if_pos h, dropWhile_nil, List.all_cons, h, Bool.true_and]
    · rw [if_neg h, List.all_cons]
      simp [h]
theorem trim_nil {l cs : List UInt8} : Lib.trimS l cs = [] ↔ l.all (cs.contains ·) = true := by
  unfold Lib.trimS Lib.trimLeftS Lib.trimRightS
  rw [dropWhile_nil, List.all_reverse]
  constructor
  · intro h
    -- what is left is of them, and so is what went
    have hsplit := List.takeWhile_append_dropWhile (p := fun b => cs.contains b) (l := l.reverse)
    have h2 : l.reverse.all (cs.contains ·) = true := by
      rw [← hsplit, List.all_append, h, Bool.and_true, List.all_eq_true]
      intro x hx
      exact List.all_eq_true.1 (List.all_takeWhile) x hx
    rwa [List.all_reverse] at h2
  · intro h
    rw [List.all_eq_true] at h ⊢
    intro x hx
    exact h x (List.mem_reverse.1 ((List.dropWhile_sublist _).mem hx))

theorem indexByte_neg : ∀ {l : List UInt8} {c : UInt8}, Lib.indexByte l c < 0 ↔ l.contains c = false
  | [], c => by simp [Lib.indexByte]
  | b :: l, c => by
    have ih := indexByte_neg (l := l) (c := c)
    have hge := Lib.indexByte_ge l c
    unfold Lib.indexByte
    by_cases h : (b == c) = true
    · have hbc : c = b := (beq_iff_eq.1 h).symm
      rw [if_pos h]
      subst hbc
      simp
    · have hcb : (c == b) = false := by
        rw [beq_eq_false_iff_ne]
        intro e
        exact h (by rw [e]; simp)
      rw [if_neg h, List.contains_cons, hcb, Bool.false_or, ← ih]
      by_cases h2 : (Lib.indexByte l c == -1) = true
      · rw [if_pos h2]
        have := beq_iff_eq.1 h2
        omega
      · rw [if_neg h2]
        have : Lib.indexByte l c ≠ -1 := fun e => h2 (by rw [e]; rfl)
        omega
end Go.Proofs.YtdjmifaidgbbaaaGreatDoor

/-
  A segment in memory: its block, its places; Base, Next, Size, Batches, Latest.
-/
set_option linter.unusedSimpArgs false
set_option linter.unusedVariables false
namespace Go.Proofs.YtdjmifaidgbbaaaGreatDoor
open Go.RowKit

/-- Where a batch lies. -/
structure Pl where
  at' : Nat
  size : Nat
  base : Int
  en : Int
  time : Int
def Pl.cells (p : Pl) : List Value := [.int .i64 (p.at' : Nat), .int .i64 (p.size : Nat), .int .i64 p.base, .int .i64 p.en, .int .i64 p.time]
theorem Pl.cells_one (p : Pl) : ∀ u ∈ p.cells, u.oneCell' = true := by
  intro u hu
  simp only [Pl.cells, List.mem_cons, List.not_mem_nil, or_false] at hu
  rcases hu with rfl | rfl | rfl | rfl | rfl <;> rfl
theorem fm_len {α : Type} {n : Nat} {f : α → List Value} (hf : ∀ a, (f a).length = n) : ∀ l : List α, (l.flatMap f).length = l.length * n
  | [] => by simp
  | a :: l => by rw [List.flatMap_cons, List.length_append, hf, fm_len hf l, List.length_cons, Nat.add_mul]; omega
theorem fm_get {α : Type} {n : Nat} {f : α → List Value} (hf : ∀ a, (f a).length = n) : ∀ (l : List α) (i : Nat) (hi : i < l.length) (j : Nat) (u : Value), (f l[i])[j]? = some u → (l.flatMap f)[i * n + j]? = some u
  | [], i, hi, _, _, _ => by simp at hi
  | a :: l, i, hi, j, u, hj => by
    rw [List.flatMap_cons]
    cases i with
    | zero =>
      have hl : j < (f a).length := (List.getElem?_eq_some_iff.1 hj).1
      rw [Nat.zero_mul, Nat.zero_add, List.getElem?_append_left hl]
      exact hj
    | succ i =>
      have e : (i + 1) * n + j = n + (i * n + j) := by rw [Nat.add_mul]; omega
      rw [e, List.getElem?_append_right (by rw [hf]; omega), hf, Nat.add_sub_cancel_left]
      exact fm_get hf l i (by simpa using hi) j u (by simpa using hj)
theorem plT : SliceT Tryz.prog 153 157 5 40 :=
  ⟨Tryz.underlying153, by
    have h : (Tryz.prog.info? 157).map (fun i => (i.zero, i.size, i.bytes)) = some (some (.agg #[.int .i64 0, .int .i64 0, .int .i64 0, .int .i64 0, .int .i64 0]), 5, 40) := by kernel_rfl
    obtain ⟨i, hi, hz, h1, h2⟩ := info_parts h
    exact ⟨i, _, hi, hz, rfl, h1, h2⟩⟩
/-- A slice of places that is the call's own. -/
def OwnP (w : World) (v : Value) (l : List Pl) : Prop := w.ownsRow 0 157 5 v l.length (l.flatMap Pl.cells)
theorem OwnP.nil (w : World) : OwnP w (.slice none 0 0) [] := World.ownsRow_nil w 0 _ 5
theorem OwnP.chg {S : Nat → Prop} {w w' : World} {v : Value} {l : List Pl} (h : OwnP w v l) (hc : Chg S w w') (hn : ∀ k, v.ownBlock = some k → ¬ S k) : OwnP w' v l := ownsRow_chg h hc hn
theorem OwnP.lt {w : World} {v : Value} {l : List Pl} (h : OwnP w v l) : ∀ k, v.ownBlock = some k → k < w.heap.size := ownsRow_lt h
theorem OwnP.val {w : World} {v : Value} {l : List Pl} (h : OwnP w v l) : ∃ a cap, v = .slice a l.length cap ∧ l.length ≤ cap ∧ (∀ x, a = some x → v.ownBlock = some x.block) ∧
    ∀ i (h : i < l.length), ∃ g, a = some ⟨g, 0, none⟩ ∧ ∀ j u, (l[i].cells)[j]? = some u → w.cell? ⟨g, i * 5 + j, none⟩ = some u := by
  rcases h.2 with ⟨rfl, hn⟩ | ⟨g, cap, cur, rfl, _, _, hle, _⟩
  · exact ⟨none, 0, by rw [hn], by omega, fun x hx => (by cases hx), fun i hi => absurd hi (by omega)⟩
  · have e1 : ∀ j, (⟨g, 0, none⟩ : Addr).add j = ⟨g, j, none⟩ := fun j => by unfold Addr.add; split <;> simp_all
    refine ⟨some ⟨g, 0, none⟩, cap, rfl, hle, fun x hx => (by cases hx; rfl), fun i hi => ⟨g, rfl, fun j u hj => ?_⟩⟩
    have := World.ownsRow.cells h (g := g) rfl (i * 5 + j) _ (fm_get (f := Pl.cells) (n := 5) (fun _ => rfl) l i hi j _ hj)
    rwa [e1] at this
theorem OwnP.form {w : World} {v : Value} {l : List Pl} (h : OwnP w v l) : v = .slice (vA v) l.length (vC v) := by
  obtain ⟨a, c, rfl, _⟩ := h.val
  rfl
theorem OwnP.row {w : World} {v : Value} {l : List Pl} (h : OwnP w v l) {k : Nat} (hk : v.ownBlock = some k) : ∃ cur, w.heap[k]? = some (.cells cur 157 (0, 0)) := by
  rcases h.2 with ⟨rfl, _⟩ | ⟨g, cap, cur, rfl, _, hg, _⟩
  · cases hk
  · obtain rfl : g = k := Option.some.inj hk
    exact ⟨cur, hg⟩

/-- A segment, plain. -/
structure Sg where
  name : List UInt8
  base : Int
  pls : List Pl
  size : Nat
def Sg.next (g : Sg) : Int := match g.pls.getLast? with | some p => p.en | none => g.base
def latestOf (l : List Pl) : Int := l.foldl (fun t p => max t p.time) (-1)
theorem latest_snoc (l : List Pl) {i : Nat} (hi : i < l.length) : latestOf (l.take (i + 1)) = max (latestOf (l.take i)) l[i].time := by
  unfold latestOf
  rw [List.take_succ_eq_append_getElem hi, List.foldl_append]
  rfl
/-- In this world the segment lies at block s, its disk at block p. -/
structure Sm (w : World) (s p : Nat) (v : Value) (g : Sg) : Prop where
  c : Box w s [.pointer (some ⟨p, 0, none⟩), .string ⟨g.name.toArray⟩, .int .i64 g.base, v, .int .i64 (g.size : Nat)] 155
  o : OwnP w v g.pls
def SHas (s : Nat) (v : Value) (k : Nat) : Prop := k = s ∨ v.ownBlock = some k
theorem Sm.lt {w : World} {s p : Nat} {v : Value} {g : Sg} (h : Sm w s p v g) : ∀ k, SHas s v k → k < w.heap.size := by
  rintro k (rfl | hk)
  · exact (Array.getElem?_eq_some_iff.1 h.c).1
  · exact h.o.lt k hk
theorem Sm.chg {S : Nat → Prop} {w w' : World} {s p : Nat} {v : Value} {g : Sg} (h : Sm w s p v g) (hc : Chg S w w') (hn : ∀ k, SHas s v k → ¬ S k) : Sm w' s p v g :=
  ⟨h.c.chg hc (hn _ (.inl rfl)), h.o.chg hc (fun k hk => hn _ (.inr hk))⟩
theorem Sm.ne {w : World} {s p : Nat} {v : Value} {g : Sg} (h : Sm w s p v g) : v.ownBlock ≠ some s := fun e => by
  have hq : w.heap[s]? = _ := h.c
  obtain ⟨cur, hcur⟩ := h.o.row e
  rw [hq] at hcur
  have := (Obj.cells.inj (Option.some.inj hcur)).2.1
  exact absurd this (by decide)

theorem sbase_any {w : World} {s p : Nat} {v : Value} {g : Sg} (h : Sm w s p v g) :
    Calls Tryz.prog 57 #[.pointer (some ⟨s, 0, none⟩)] w fun e w' => e = .returned (.int .i64 g.base) ∧ w' = w := by
  have c2 := h.c.cell (j := 2) rfl
  clear h
  go_enter Tryz.func57, Tryz.ntmps57
  go_wp2_with fail
  go_ret
  exact ⟨rfl, rfl⟩
theorem ssize_any {w : World} {s p : Nat} {v : Value} {g : Sg} (h : Sm w s p v g) :
    Calls Tryz.prog 59 #[.pointer (some ⟨s, 0, none⟩)] w fun e w' => e = .returned (.int .i64 (g.size : Nat)) ∧ w' = w := by
  have c2 := h.c.cell (j := 4) rfl
  clear h
  go_enter Tryz.func59, Tryz.ntmps59
  go_wp2_with fail
  go_ret
  exact ⟨rfl, rfl⟩

set_option maxHeartbeats 1000000 in
set_option maxRecDepth 20000 in
theorem snext_any {w : World} {s p : Nat} {v : Value} {g : Sg} (h : Sm w s p v g) (hn : g.pls.length ≤ 1000000) :
    Calls Tryz.prog 52 #[.pointer (some ⟨s, 0, none⟩)] w fun e w' => e = .returned (.int .i64 g.next) ∧ Chg Nil w w' := by
  have c2 := h.c.cell (j := 2) rfl
  have c3 := h.c.cell (j := 3) rfl
  obtain ⟨a, c, hv, _, _, hcell⟩ := h.o.val
  subst hv
  clear h
  by_cases h0 : g.pls.length = 0
  · have he : g.next = g.base := by unfold Sg.next; rw [List.length_eq_zero_iff.1 h0]; rfl
    have HE := Lib.hid he
    have hl0 : ((g.pls.length : Int) == 0) = true := by rw [h0]; rfl
    clear hcell he h0
    go_enter Tryz.func52, Tryz.ntmps52
    go_wp2_with fail
    go_ret
    rw [HE.out]
    exact ⟨rfl, Chg.refl _ _⟩
  · have hl0 : ((g.pls.length : Int) == 0) = false := beq_eq_false_iff_ne.2 (by omega)
    obtain ⟨b, rfl, hz⟩ := hcell (g.pls.length - 1) (by omega)
    have z3 := hz 3 _ rfl
    have he : g.next = (g.pls[g.pls.length - 1]'(by omega)).en := by
      unfold Sg.next
      rw [List.getLast?_eq_getElem?, List.getElem?_eq_getElem (by omega)]
    rw [he]
    obtain ⟨en, hen⟩ : ∃ en, (g.pls[g.pls.length - 1]'(by omega)).en = en := ⟨_, rfl⟩
    rw [hen] at z3 ⊢
    have hk0 : (1 : Int) ≤ (g.pls.length : Int) := by omega
    have hk1 : (g.pls.length : Int) - 1 < (g.pls.length : Int) := by omega
    clear hz he hen h0 hcell
    generalize g.pls.length = m at *
    go_enter Tryz.func52, Tryz.ntmps52
    go_upto_region 3 with fail
    refine wp_region_mono _ (Chg Nil) (by kernel_rfl) (fun _ _ _ h k => h.trans k (fun _ h => h.elim)) [[], [0], [1], [2], [], [4], [5], [6], [7], [8], [3, 9], [10], [11], [12]] rfl (by kernel_rfl) (Chg.refl _ _).drew ?_
    iterate 3 ((with_reducible apply Walk.eq); case h => (intro w2 hw2 N hN; simp only [depsOf, List.filterMap_nil, List.filterMap_cons, List.getElem?_toArray, List.getElem?_cons_zero, List.getElem?_cons_succ, Option.bind_some, List.nil_append, List.cons_append, Ob]; go_simp; (try go_bits); with_reducible exact hN _ (Chg.refl _ _)))
    ((with_reducible apply Walk.eq); case h => (intro w2 hw2 N hN; have hq := hw2.cell c3 (fun h => h); simp only [depsOf, List.filterMap_nil, List.filterMap_cons, List.getElem?_toArray, List.getElem?_cons_zero, List.getElem?_cons_succ, Option.bind_some, List.nil_append, List.cons_append, Ob]; go_simp; with_reducible exact hN _ (Chg.refl _ _)))
    iterate 3 ((with_reducible apply Walk.eq); case h => (intro w2 hw2 N hN; simp only [depsOf, List.filterMap_nil, List.filterMap_cons, List.getElem?_toArray, List.getElem?_cons_zero, List.getElem?_cons_succ, Option.bind_some, List.nil_append, List.cons_append, Ob]; go_simp; (try go_bits); with_reducible exact hN _ (Chg.refl _ _)))
    ((with_reducible apply Walk.eq); case h => (intro w2 hw2 N hN; have hq := hw2.cell c3 (fun h => h); simp only [depsOf, List.filterMap_nil, List.filterMap_cons, List.getElem?_toArray, List.getElem?_cons_zero, List.getElem?_cons_succ, Option.bind_some, List.nil_append, List.cons_append, Ob]; go_simp; with_reducible exact hN _ (Chg.refl _ _)))
    iterate 4 ((with_reducible apply Walk.eq); case h => (intro w2 hw2 N hN; simp only [depsOf, List.filterMap_nil, List.filterMap_cons, List.getElem?_toArray, List.getElem?_cons_zero, List.getElem?_cons_succ, Option.bind_some, List.nil_append, List.cons_append, Ob]; go_simp; (try go_bits); with_reducible exact hN _ (Chg.refl _ _)))
    ((with_reducible apply Walk.eq); case h => (intro w2 hw2 N hN; have hq := hw2.cell z3 (fun h => h); simp only [depsOf, List.filterMap_nil, List.filterMap_cons, List.getElem?_toArray, List.getElem?_cons_zero, List.getElem?_cons_succ, Option.bind_some, List.nil_append, List.cons_append, Ob]; go_simp; with_reducible exact hN _ (Chg.refl _ _)))
    ((with_reducible apply Walk.eq); case h => (intro w2 hw2 N hN; simp only [depsOf, List.filterMap_nil, List.filterMap_cons, List.getElem?_toArray, List.getElem?_cons_zero, List.getElem?_cons_succ, Option.bind_some, List.nil_append, List.cons_append, Ob]; go_simp; (try go_bits); with_reducible exact hN _ (Chg.refl _ _)))
    intro w6 hw6
    simp only [List.nil_append, List.cons_append, Fin]
    go_simp
    go_wp2_with fail
    go_ret
    exact ⟨rfl, hw6⟩
end Go.Proofs.YtdjmifaidgbbaaaGreatDoor

/-
  A segment in memory: Latest.
-/
set_option linter.unusedSimpArgs false
set_option linter.unusedVariables false
namespace Go.Proofs.YtdjmifaidgbbaaaGreatDoor
open Go.RowKit

theorem max_if (u q : Int) : (if u < q then q else u) = max u q := by split <;> omega
theorem meas_two {n i : Nat} (h : i < n) : n - (RowKit.intOf (Value.int .i64 ((i : Int) + 1))).toNat < n - (RowKit.intOf (Value.int .i64 (i : Int))).toNat := by
  show n - ((i : Int) + 1).toNat < n - (i : Int).toNat
  omega

set_option maxHeartbeats 1000000 in
set_option maxRecDepth 20000 in
theorem slatest_any {w : World} {s p : Nat} {v : Value} {g : Sg} (h : Sm w s p v g) (hn : g.pls.length ≤ 1000000) :
    Calls Tryz.prog 63 #[.pointer (some ⟨s, 0, none⟩)] w fun e w' => e = .returned (.int .i64 (latestOf g.pls)) ∧ Chg Nil w w' := by
  have c3 := h.c.cell (j := 3) rfl
  obtain ⟨a, c, hv, _, _, hcell⟩ := h.o.val
  subst hv
  have HCELL := Lib.hid hcell
  clear h hcell
  generalize g.pls = l at *
  go_enter Tryz.func63, Tryz.ntmps63
  go_wp2_with fail
  clear c3
  go_loopw [11, 3] (fun ii nn wr => ∃ (wq : World) (i : Nat), wq = wr ∧ i ≤ l.length ∧ ii = .int .i64 i ∧ nn = .int .i64 (latestOf (l.take i)) ∧ Chg Nil w wr) (fun ii _ _ => l.length - (RowKit.intOf ii).toNat)
  case atStart => exact ⟨_, 0, rfl, by omega, rfl, rfl, Chg.refl _ _⟩
  case round =>
    obtain ⟨wr, i, rfl, hi, rfl, rfl, hc⟩ := hrel
    have HC := Lib.hid hc
    clear hc
    by_cases hil : i < l.length
    · have hii : (i : Int) < (l.length : Int) := by omega
      have hi64 : wrap64 ((i : Int) + 1) = (i : Int) + 1 := by unfold wrap64; omega
      obtain ⟨b, rfl, hz⟩ := HCELL.out i hil
      have HNX := Lib.hid (latest_snoc l hil)
      obtain ⟨u, hu⟩ : ∃ u, latestOf (l.take i) = u := ⟨_, rfl⟩
      rw [hu] at HNX
      rw [hu]
      obtain ⟨q, hq⟩ : ∃ q, q = l[i] := ⟨_, rfl⟩
      rw [← hq] at hz HNX
      clear hu hq
      obtain ⟨qa, qs, qb, qe, qt⟩ := q
      have z0 := HC.out.cell (hz 0 _ rfl) (fun h => h)
      have z1 := HC.out.cell (hz 1 _ rfl) (fun h => h)
      have z2 := HC.out.cell (hz 2 _ rfl) (fun h => h)
      have z3 := HC.out.cell (hz 3 _ rfl) (fun h => h)
      have z4 := HC.out.cell (hz 4 _ rfl) (fun h => h)
      rw [Nat.add_zero] at z0
      clear hz
      have hbx := Box.new wr [.int .i64 (qa : Nat), .int .i64 (qs : Nat), .int .i64 qb, .int .i64 qe, .int .i64 qt] 157
      have HC2 := Lib.hid (HC.out.trans ((Chg.refl Nil wr).alloc (.cells #[.int .i64 (qa : Nat), .int .i64 (qs : Nat), .int .i64 qb, .int .i64 qe, .int .i64 qt] 157)) (fun _ h => h.elim))
      go_upto_region 5 with fail
      clear z0 z1 z2 z3 z4
      have hbx : Box (wr.alloc (.cells #[.int .i64 (qa : Nat), .int .i64 (qs : Nat), .int .i64 qb, .int .i64 qe, .int .i64 qt] 157)) wr.heap.size [.int .i64 (qa : Nat), .int .i64 (qs : Nat), .int .i64 qb, .int .i64 qe, .int .i64 qt] 157 := hbx
      generalize wr.alloc (.cells #[.int .i64 (qa : Nat), .int .i64 (qs : Nat), .int .i64 qb, .int .i64 qe, .int .i64 qt] 157) = w2 at *
      generalize wr.heap.size = g2 at *
      have y1 := hbx.cell (j := 4) rfl
      clear hbx
      go_wp2_with fail
      go_roundw
      case rel => exact ⟨_, i + 1, rfl, by omega, by go_num, by rw [HNX.out]; exact congrArg _ (max_if u qt), HC2.out⟩
      case measure => exact meas_two hil
    · have hii : ¬ (i : Int) < (l.length : Int) := by omega
      obtain rfl : i = l.length := by omega
      rw [List.take_length]
      go_wp2_with fail
      go_ret
      exact ⟨rfl, HC.out⟩
end Go.Proofs.YtdjmifaidgbbaaaGreatDoor
