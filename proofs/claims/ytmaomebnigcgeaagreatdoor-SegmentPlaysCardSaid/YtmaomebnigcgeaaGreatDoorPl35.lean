/-
  The document's segment in memory: Next, Size, Latest. (Of the segments' seat.)
-/
import Derived.Test.YtmaomebnigcgeaaGreatDoorPl34
set_option linter.unusedSimpArgs false
set_option linter.unusedVariables false
namespace Go.Proofs.YtmaomebnigcgeaaGreatDoor
open Go.RowKit Go.Maps

def Bm.c4 (m : Bm) : List Value := [.int .i64 m.b.base, .int .i64 m.b.en, .slice m.ra m.b.rs.length m.rc, .int .i64 (m.b.bytes.length : Nat)]
theorem c4_one (a b : Int) (ra : Option Addr) (n c : Nat) (z : Int) : ∀ u ∈ ([.int .i64 a, .int .i64 b, .slice ra n c, .int .i64 z] : List Value), u.oneCell' = true := by
  intro u hu
  simp only [List.mem_cons, List.not_mem_nil, or_false] at hu
  rcases hu with rfl | rfl | rfl | rfl <;> rfl
theorem rbtT : SliceT Tryz.prog 36 49 4 48 :=
  ⟨Tryz.underlying36, by
    have h : (Tryz.prog.info? 49).map (fun i => (i.zero, i.size, i.bytes)) = some (some (.agg #[.int .i64 0, .int .i64 0, .slice none 0 0, .int .i64 0]), 4, 48) := by kernel_rfl
    obtain ⟨i, hi, hz, h1, h2⟩ := info_parts h
    exact ⟨i, _, hi, hz, rfl, h1, h2⟩⟩
def OwnQ (w : World) (v : Value) (l : List Bm) : Prop := w.ownsRow 0 49 4 v l.length (l.flatMap Bm.c4)
theorem OwnQ.nil (w : World) : OwnQ w (.slice none 0 0) [] := World.ownsRow_nil w 0 _ 4
theorem OwnQ.form {w : World} {v : Value} {l : List Bm} (h : OwnQ w v l) : v = .slice (vA v) l.length (vC v) := by
  rcases h.2 with ⟨rfl, hn⟩ | ⟨g, cap, cur, rfl, _, _, hle, _⟩
  · rw [hn]; rfl
  · rfl
theorem OwnQ.lt {w : World} {v : Value} {l : List Bm} (h : OwnQ w v l) : ∀ k, v.ownBlock = some k → k < w.heap.size := ownsRow_lt h
theorem OwnQ.val {w : World} {v : Value} {l : List Bm} (h : OwnQ w v l) : ∃ a cap, v = .slice a l.length cap ∧ l.length ≤ cap ∧
    ∀ i (h : i < l.length), ∃ g, a = some ⟨g, 0, none⟩ ∧ ∀ j u, (l[i].c4)[j]? = some u → w.cell? ⟨g, i * 4 + j, none⟩ = some u := by
  rcases h.2 with ⟨rfl, hn⟩ | ⟨g, cap, cur, rfl, _, _, hle, _⟩
  · exact ⟨none, 0, by rw [hn], by omega, fun i hi => absurd hi (by omega)⟩
  · have e1 : ∀ j, (⟨g, 0, none⟩ : Addr).add j = ⟨g, j, none⟩ := fun j => by unfold Addr.add; split <;> simp_all
    refine ⟨some ⟨g, 0, none⟩, cap, rfl, hle, fun i hi => ⟨g, rfl, fun j u hj => ?_⟩⟩
    have := World.ownsRow.cells h (g := g) rfl (i * 4 + j) _ (fm_get (f := Bm.c4) (n := 4) (fun _ => rfl) l i hi j _ hj)
    rwa [e1] at this
/-- The document's segment lies at block q. -/
structure Sq (w : World) (q : Nat) (v : Value) (base : Int) (ms : List Bm) : Prop where
  c : Box w q [.int .i64 base, v, .int .i64 0] 38
  o : OwnQ w v ms
  r : ∀ m ∈ ms, RecsAt w m.ra m.b.rs
/-- Its blocks. -/
def QHas (q : Nat) (v : Value) (ms : List Bm) (k : Nat) : Prop := k = q ∨ v.ownBlock = some k ∨ ∃ m ∈ ms, m.b.rs ≠ [] ∧ ∃ x, m.ra = some x ∧ x.block = k
theorem Sq.chg {S : Nat → Prop} {w w' : World} {q : Nat} {v : Value} {base : Int} {ms : List Bm} (h : Sq w q v base ms) (hc : Chg S w w') (hn : ∀ k, QHas q v ms k → ¬ S k) : Sq w' q v base ms :=
  ⟨h.c.chg hc (hn _ (.inl rfl)), ownsRow_chg h.o hc (fun k hk => hn _ (.inr (.inl hk))), fun m hm => (h.r m hm).chg' hc (fun h0 x hx => hn _ (.inr (.inr ⟨m, hm, h0, x, hx, rfl⟩)))⟩
theorem Sq.lt {w : World} {q : Nat} {v : Value} {base : Int} {ms : List Bm} (h : Sq w q v base ms) : ∀ k, QHas q v ms k → k < w.heap.size := by
  rintro k (rfl | hk | ⟨m, hm, h0, x, hx, rfl⟩)
  · exact (Array.getElem?_eq_some_iff.1 h.c).1
  · exact h.o.lt k hk
  · exact (h.r m hm).lt h0 hx

theorem lastEnd_get : ∀ {n : Int} {l : List Bt} (h : 0 < l.length), lastEnd n l = (l[l.length - 1]'(by omega)).en
  | n, [b], _ => rfl
  | n, a :: b :: l, _ => by
    show lastEnd a.en (b :: l) = _
    rw [lastEnd_get (by simp)]
    simp

set_option maxHeartbeats 1000000 in
set_option maxRecDepth 20000 in
theorem rnext_any {w : World} {q : Nat} {v : Value} {base : Int} {ms : List Bm} (h : Sq w q v base ms) (hn : ms.length ≤ 1000000) :
    Calls Tryz.prog 10 #[.pointer (some ⟨q, 0, none⟩)] w fun e w' => e = .returned (.int .i64 (lastEnd base (ms.map Bm.b))) ∧ Chg Nil w w' := by
  have c0 := h.c.cell (j := 0) rfl
  have c1 := h.c.cell (j := 1) rfl
  obtain ⟨a, c, hv, _, hcell⟩ := h.o.val
  subst hv
  clear h
  by_cases h0 : ms.length = 0
  · have he : lastEnd base (ms.map Bm.b) = base := by rw [List.length_eq_zero_iff.1 h0]; rfl
    have HE := Lib.hid he
    have hl0 : ((ms.length : Int) == 0) = true := by rw [h0]; rfl
    clear hcell he h0
    go_enter Tryz.func10, Tryz.ntmps10
    go_wp2_with fail
    go_ret
    rw [HE.out]
    exact ⟨rfl, Chg.refl _ _⟩
  · have hl0 : ((ms.length : Int) == 0) = false := beq_eq_false_iff_ne.2 (by omega)
    obtain ⟨b, rfl, hz⟩ := hcell (ms.length - 1) (by omega)
    have z1 := hz 1 _ rfl
    have he : lastEnd base (ms.map Bm.b) = (ms[ms.length - 1]'(by omega)).b.en := by
      rw [lastEnd_get (by rw [List.length_map]; omega)]
      simp
    rw [he]
    obtain ⟨en, hen⟩ : ∃ en, (ms[ms.length - 1]'(by omega)).b.en = en := ⟨_, rfl⟩
    rw [hen] at z1 ⊢
    have hk0 : (1 : Int) ≤ (ms.length : Int) := by omega
    have hk1 : (ms.length : Int) - 1 < (ms.length : Int) := by omega
    clear hz he hen h0 hcell
    generalize ms.length = m at *
    go_enter Tryz.func10, Tryz.ntmps10
    go_upto_region 3 with fail
    refine wp_region_mono _ (Chg Nil) (by kernel_rfl) (fun _ _ _ h k => h.trans k (fun _ h => h.elim)) [[], [0], [1], [2], [], [4], [5], [6], [7], [8], [3, 9], [10], [11], [12], [13]] rfl (by kernel_rfl) (Chg.refl _ _).drew ?_
    iterate 3 ((with_reducible apply Walk.eq); case h => (intro w2 hw2 N hN; simp only [depsOf, List.filterMap_nil, List.filterMap_cons, List.getElem?_toArray, List.getElem?_cons_zero, List.getElem?_cons_succ, Option.bind_some, List.nil_append, List.cons_append, Ob]; go_simp; (try go_bits); with_reducible exact hN _ (Chg.refl _ _)))
    ((with_reducible apply Walk.eq); case h => (intro w2 hw2 N hN; have hq := hw2.cell c1 (fun h => h); simp only [depsOf, List.filterMap_nil, List.filterMap_cons, List.getElem?_toArray, List.getElem?_cons_zero, List.getElem?_cons_succ, Option.bind_some, List.nil_append, List.cons_append, Ob]; go_simp; with_reducible exact hN _ (Chg.refl _ _)))
    iterate 3 ((with_reducible apply Walk.eq); case h => (intro w2 hw2 N hN; simp only [depsOf, List.filterMap_nil, List.filterMap_cons, List.getElem?_toArray, List.getElem?_cons_zero, List.getElem?_cons_succ, Option.bind_some, List.nil_append, List.cons_append, Ob]; go_simp; (try go_bits); with_reducible exact hN _ (Chg.refl _ _)))
    ((with_reducible apply Walk.eq); case h => (intro w2 hw2 N hN; have hq := hw2.cell c1 (fun h => h); simp only [depsOf, List.filterMap_nil, List.filterMap_cons, List.getElem?_toArray, List.getElem?_cons_zero, List.getElem?_cons_succ, Option.bind_some, List.nil_append, List.cons_append, Ob]; go_simp; with_reducible exact hN _ (Chg.refl _ _)))
    iterate 5 ((with_reducible apply Walk.eq); case h => (intro w2 hw2 N hN; simp only [depsOf, List.filterMap_nil, List.filterMap_cons, List.getElem?_toArray, List.getElem?_cons_zero, List.getElem?_cons_succ, Option.bind_some, List.nil_append, List.cons_append, Ob]; go_simp; (try go_bits); with_reducible exact hN _ (Chg.refl _ _)))
    ((with_reducible apply Walk.eq); case h => (intro w2 hw2 N hN; have hq := hw2.cell z1 (fun h => h); simp only [depsOf, List.filterMap_nil, List.filterMap_cons, List.getElem?_toArray, List.getElem?_cons_zero, List.getElem?_cons_succ, Option.bind_some, List.nil_append, List.cons_append, Ob]; go_simp; with_reducible exact hN _ (Chg.refl _ _)))
    ((with_reducible apply Walk.eq); case h => (intro w2 hw2 N hN; simp only [depsOf, List.filterMap_nil, List.filterMap_cons, List.getElem?_toArray, List.getElem?_cons_zero, List.getElem?_cons_succ, Option.bind_some, List.nil_append, List.cons_append, Ob]; go_simp; (try go_bits); with_reducible exact hN _ (Chg.refl _ _)))
    intro w6 hw6
    simp only [List.nil_append, List.cons_append, Fin]
    go_simp
    go_wp2_with fail
    go_ret
    exact ⟨rfl, hw6⟩

theorem bmBs_snoc (l : List Bm) {i : Nat} (hi : i < l.length) : (batBs ((l.take (i + 1)).map Bm.b)).length = (batBs ((l.take i).map Bm.b)).length + l[i].b.bytes.length := by
  rw [List.take_succ_eq_append_getElem hi, List.map_append, List.map_cons, List.map_nil, batBs_append, List.length_append, batBs_cons]
  simp [batBs]
theorem batBs_le (l : List Bm) (i : Nat) : (batBs ((l.take i).map Bm.b)).length ≤ (batBs (l.map Bm.b)).length := by
  conv => rhs; rw [← List.take_append_drop i l]
  rw [List.map_append, batBs_append, List.length_append]
  omega
set_option maxHeartbeats 1000000 in
set_option maxRecDepth 20000 in
theorem rsize_any {w : World} {q : Nat} {v : Value} {base : Int} {ms : List Bm} (h : Sq w q v base ms) (hn : ms.length ≤ 1000000) (hb : (batBs (ms.map Bm.b)).length ≤ 1000000000) :
    Calls Tryz.prog 11 #[.pointer (some ⟨q, 0, none⟩)] w fun e w' => e = .returned (.int .i64 ((batBs (ms.map Bm.b)).length : Nat)) ∧ Chg Nil w w' := by
  have c1 := h.c.cell (j := 1) rfl
  obtain ⟨a, c, hv, _, hcell⟩ := h.o.val
  subst hv
  have HCELL := Lib.hid hcell
  have HB := Lib.hid hb
  clear h hcell hb
  go_enter Tryz.func11, Tryz.ntmps11
  go_wp2_with fail
  clear c1
  go_loopw [11, 3] (fun ii nn wr => ∃ (wq : World) (i : Nat), wq = wr ∧ i ≤ ms.length ∧ ii = .int .i64 i ∧ nn = .int .i64 ((batBs ((ms.take i).map Bm.b)).length : Nat) ∧ Chg Nil w wr) (fun ii _ _ => ms.length - (RowKit.intOf ii).toNat)
  case atStart => exact ⟨_, 0, rfl, by omega, rfl, rfl, Chg.refl _ _⟩
  case round =>
    obtain ⟨wr, i, rfl, hi, rfl, rfl, hc⟩ := hrel
    have HC := Lib.hid hc
    clear hc
    by_cases hil : i < ms.length
    · have hii : (i : Int) < (ms.length : Int) := by omega
      obtain ⟨b, rfl, hz⟩ := HCELL.out i hil
      have HNX := Lib.hid (bmBs_snoc ms hil)
      have hle := batBs_le ms (i + 1)
      have hub := HB.out
      rw [HNX.out] at hle
      obtain ⟨u, hu⟩ : ∃ u, (batBs ((ms.take i).map Bm.b)).length = u := ⟨_, rfl⟩
      rw [hu] at HNX hle
      rw [hu]
      obtain ⟨m, hm⟩ : ∃ m, m = ms[i] := ⟨_, rfl⟩
      rw [← hm] at hz HNX hle
      clear hu hm
      obtain ⟨⟨bb, be, brs⟩, ra, rc⟩ := m
      obtain ⟨bl, hbl⟩ : ∃ bl, (Bt.mk bb be brs).bytes.length = bl := ⟨_, rfl⟩
      have z0 := HC.out.cell (hz 0 _ rfl) (fun h => h)
      have z1 := HC.out.cell (hz 1 _ rfl) (fun h => h)
      have z2 := HC.out.cell (hz 2 _ rfl) (fun h => h)
      have z3 := HC.out.cell (hz 3 _ rfl) (fun h => h)
      rw [Nat.add_zero] at z0
      have HNX2 : Hid ((batBs ((ms.take (i + 1)).map Bm.b)).length = u + bl) := by rw [← hbl]; exact HNX.out
      have hle2 : u + bl ≤ 1000000000 := by rw [← hbl]; exact Nat.le_trans hle hub
      simp only at z3
      rw [hbl] at z3
      clear hz HNX hbl hle hub
      have hbx := Box.new wr [.int .i64 bb, .int .i64 be, .slice ra brs.length rc, .int .i64 (bl : Nat)] 49
      have HC2 := Lib.hid (HC.out.trans ((Chg.refl Nil wr).alloc (.cells #[.int .i64 bb, .int .i64 be, .slice ra brs.length rc, .int .i64 (bl : Nat)] 49)) (fun _ h => h.elim))
      go_upto_region 5 with fail
      clear z0 z1 z2 z3
      have hbx : Box (wr.alloc (.cells #[.int .i64 bb, .int .i64 be, .slice ra brs.length rc, .int .i64 (bl : Nat)] 49)) wr.heap.size [.int .i64 bb, .int .i64 be, .slice ra brs.length rc, .int .i64 (bl : Nat)] 49 := hbx
      generalize wr.alloc (.cells #[.int .i64 bb, .int .i64 be, .slice ra brs.length rc, .int .i64 (bl : Nat)] 49) = w2 at *
      generalize wr.heap.size = g2 at *
      have y3 := hbx.cell (j := 3) rfl
      clear hbx
      go_wp2_with fail
      go_roundw
      case rel => exact ⟨_, i + 1, rfl, by omega, by go_num, by rw [HNX2.out]; go_num, HC2.out⟩
      case measure => exact meas_two hil
    · have hii : ¬ (i : Int) < (ms.length : Int) := by omega
      obtain rfl : i = ms.length := by omega
      rw [List.take_length]
      go_wp2_with fail
      go_ret
      exact ⟨rfl, HC.out⟩
end Go.Proofs.YtmaomebnigcgeaaGreatDoor

/-
  The document's segment in memory: Latest. (Of the segments' seat.)
-/
set_option linter.unusedSimpArgs false
set_option linter.unusedVariables false
namespace Go.Proofs.YtmaomebnigcgeaaGreatDoor
open Go.RowKit Go.Maps

theorem timeOf_app (l m : List Rec) : timeOf (l ++ m) = m.foldl (fun t r => max t r.time) (timeOf l) := by unfold timeOf; rw [List.foldl_append]
theorem timeOf_lo (l : List Rec) : -1 ≤ timeOf l := (fold_ge l (-1)).1
theorem fold_max : ∀ (l : List Rec) (a : Int), -1 ≤ a → l.foldl (fun t r => max t r.time) a = max a (timeOf l)
  | [], a, h => by unfold timeOf; simp only [List.foldl_nil]; omega
  | r :: l, a, h => by
    have h1 := fold_max l (max a r.time) (by omega)
    have h2 := fold_max l (max (-1) r.time) (by omega)
    rw [List.foldl_cons, h1]
    unfold timeOf at h2 ⊢
    rw [List.foldl_cons, h2]
    omega
/-- The greatest time of places is that of all records. -/
theorem latest_all : ∀ (l : List Bt) (n : Nat), latestOf (plsOf n l) = timeOf (l.flatMap Bt.rs) := by
  have key : ∀ (l : List Bt) (n : Nat) (a : List Rec), (plsOf n l).foldl (fun t p => max t p.time) (timeOf a) = timeOf (a ++ l.flatMap Bt.rs) := by
    intro l
    induction l with
    | nil => intro n a; simp [plsOf]
    | cons b l ih =>
      intro n a
      rw [plsOf, List.foldl_cons, List.flatMap_cons, ← List.append_assoc, ← ih (n + b.bytes.length) (a ++ b.rs), timeOf_app, fold_max _ _ (timeOf_lo a)]
  intro l n
  have := key l n []
  rw [List.nil_append] at this
  exact this
theorem timeOf_snoc (l : List Rec) (r : Rec) : timeOf (l ++ [r]) = max (timeOf l) r.time := by rw [timeOf_app]; rfl
theorem flat_snoc (l : List Bm) {i : Nat} (hi : i < l.length) : (l.take (i + 1)).flatMap (fun m => m.b.rs) = (l.take i).flatMap (fun m => m.b.rs) ++ l[i].b.rs := by
  rw [List.take_succ_eq_append_getElem hi, List.flatMap_append, List.flatMap_cons, List.flatMap_nil, List.append_nil]

set_option maxHeartbeats 0 in
set_option maxRecDepth 20000 in
theorem rlatest_any {w : World} {q : Nat} {v : Value} {base : Int} {ms : List Bm} (h : Sq w q v base ms) (hn : ms.length ≤ 1000000) (hf : ∀ m ∈ ms, m.b.rs.length ≤ 1000000) :
    Calls Tryz.prog 22 #[.pointer (some ⟨q, 0, none⟩)] w fun e w' => e = .returned (.int .i64 (timeOf ((ms.map Bm.b).flatMap Bt.rs))) ∧ Chg Nil w w' := by
  have hfl : (ms.map Bm.b).flatMap Bt.rs = ms.flatMap (fun m => m.b.rs) := by rw [List.flatMap_map]
  rw [hfl]
  have c1 := h.c.cell (j := 1) rfl
  obtain ⟨a, c, hv, _, hcell⟩ := h.o.val
  subst hv
  have HCELL := Lib.hid hcell
  have HR := Lib.hid h.r
  have HF := Lib.hid hf
  clear h hcell hfl hf
  go_enter Tryz.func22, Tryz.ntmps22
  go_wp2_with fail
  clear c1
  go_loopw [13, 3] (fun ii nn wr => ∃ (wq : World) (i : Nat), wq = wr ∧ i ≤ ms.length ∧ ii = .int .i64 i ∧ nn = .int .i64 (timeOf ((ms.take i).flatMap (fun m => m.b.rs))) ∧ Chg Nil w wr) (fun ii _ _ => ms.length - (RowKit.intOf ii).toNat)
  case atStart => exact ⟨_, 0, rfl, by omega, rfl, rfl, Chg.refl _ _⟩
  case round =>
    obtain ⟨wr, i, rfl, hi, rfl, rfl, hc⟩ := hrel
    have HC := Lib.hid hc
    clear hc
    by_cases hil : i < ms.length
    · have hii : (i : Int) < (ms.length : Int) := by omega
      obtain ⟨b, rfl, hz⟩ := HCELL.out i hil
      have HNX := Lib.hid (flat_snoc ms hil)
      have hmem := List.getElem_mem hil
      have hrs := HR.out _ hmem
      have hfw := HF.out _ hmem
      obtain ⟨m, hm⟩ : ∃ m, m = ms[i] := ⟨_, rfl⟩
      rw [← hm] at hz HNX hrs hfw
      clear hm hmem
      obtain ⟨⟨bb, be, brs⟩, ra, rc⟩ := m
      have hrs : RecsAt w ra brs := hrs
      have hfw : brs.length ≤ 1000000 := hfw
      have HRS := Lib.hid hrs
      obtain ⟨bl, hbl⟩ : ∃ bl, (Bt.mk bb be brs).bytes.length = bl := ⟨_, rfl⟩
      have z0 := HC.out.cell (hz 0 _ rfl) (fun h => h)
      have z1 := HC.out.cell (hz 1 _ rfl) (fun h => h)
      have z2 := HC.out.cell (hz 2 _ rfl) (fun h => h)
      have z3 := HC.out.cell (hz 3 _ rfl) (fun h => h)
      rw [Nat.add_zero] at z0
      simp only at z3
      rw [hbl] at z3
      clear hz hbl hrs
      obtain ⟨l0, hl0⟩ : ∃ l0, (ms.take i).flatMap (fun m => m.b.rs) = l0 := ⟨_, rfl⟩
      rw [hl0] at HNX
      rw [hl0]
      have HNX2 : Hid ((ms.take (i + 1)).flatMap (fun m => m.b.rs) = l0 ++ brs) := HNX.out
      have HIL := Lib.hid hil
      clear hl0 HNX hil
      have hbx := Box.new wr [.int .i64 bb, .int .i64 be, .slice ra brs.length rc, .int .i64 (bl : Nat)] 49
      have HC2 := Lib.hid (HC.out.trans ((Chg.refl Nil wr).alloc (.cells #[.int .i64 bb, .int .i64 be, .slice ra brs.length rc, .int .i64 (bl : Nat)] 49)) (fun _ h => h.elim))
      go_upto_region 5 with fail
      clear z0 z1 z2 z3
      have hbx : Box (wr.alloc (.cells #[.int .i64 bb, .int .i64 be, .slice ra brs.length rc, .int .i64 (bl : Nat)] 49)) wr.heap.size [.int .i64 bb, .int .i64 be, .slice ra brs.length rc, .int .i64 (bl : Nat)] 49 := hbx
      generalize wr.alloc (.cells #[.int .i64 bb, .int .i64 be, .slice ra brs.length rc, .int .i64 (bl : Nat)] 49) = w2 at *
      generalize wr.heap.size = g2 at *
      have y2 := hbx.cell (j := 2) rfl
      clear hbx
      go_wp2_with fail
      clear y2
      go_loopw [21, 3] (fun jv nn wr => ∃ (wq : World) (j : Nat), wq = wr ∧ j ≤ brs.length ∧ jv = .int .i64 j ∧ nn = .int .i64 (timeOf (l0 ++ brs.take j)) ∧ Chg Nil w wr) (fun jv _ _ => brs.length - (RowKit.intOf jv).toNat)
      case atStart => exact ⟨_, 0, rfl, by omega, rfl, by rw [List.take_zero, List.append_nil], HC2.out⟩
      case round =>
        obtain ⟨w4, j, rfl, hj, rfl, rfl, hc4⟩ := hrel
        have HC4 := Lib.hid hc4
        clear hc4
        by_cases hjl : j < brs.length
        · have hjj : (j : Int) < (brs.length : Int) := by omega
          obtain ⟨rb, off, hra, hcell⟩ := HRS.out j hjl
          subst hra
          have HN2 : Hid (timeOf (l0 ++ brs.take (j + 1)) = max (timeOf (l0 ++ brs.take j)) brs[j].time) := by
            unfold Hid
            rw [List.take_succ_eq_append_getElem hjl, ← List.append_assoc, timeOf_snoc]
          obtain ⟨u, hu⟩ : ∃ u, timeOf (l0 ++ brs.take j) = u := ⟨_, rfl⟩
          rw [hu] at HN2
          rw [hu]
          obtain ⟨r, hr⟩ : ∃ r, r = brs[j] := ⟨_, rfl⟩
          rw [← hr] at hcell HN2
          have HJL := Lib.hid hjl
          clear hr hu
          obtain ⟨qo, qt2, qk, qkey, qg, qv⟩ := r
          have z0 := HC4.out.cell (hcell 0 _ rfl) (fun h => h)
          have z1 := HC4.out.cell (hcell 1 _ rfl) (fun h => h)
          have z2 := HC4.out.cell (hcell 2 _ rfl) (fun h => h)
          have z3 := HC4.out.cell (hcell 3 _ rfl) (fun h => h)
          have z4 := HC4.out.cell (hcell 4 _ rfl) (fun h => h)
          have z5 := HC4.out.cell (hcell 5 _ rfl) (fun h => h)
          rw [Nat.add_zero] at z0
          clear hcell
          have hbr := Box.new w4 [.int .i64 qo, .int .i64 qt2, .bool qk, .string qkey, .bool qg, .string qv] 55
          have halr := (Chg.refl Nil w4).alloc (.cells #[.int .i64 qo, .int .i64 qt2, .bool qk, .string qkey, .bool qg, .string qv] 55)
          go_upto_region 8 with fail
          clear z0 z1 z2 z3 z4 z5
          have hbr : Box (w4.alloc (.cells #[.int .i64 qo, .int .i64 qt2, .bool qk, .string qkey, .bool qg, .string qv] 55)) w4.heap.size [.int .i64 qo, .int .i64 qt2, .bool qk, .string qkey, .bool qg, .string qv] 55 := hbr
          have HC5 := Lib.hid (HC4.out.trans halr (fun _ h => h.elim))
          generalize w4.alloc (.cells #[.int .i64 qo, .int .i64 qt2, .bool qk, .string qkey, .bool qg, .string qv] 55) = w5 at *
          generalize w4.heap.size = g5 at *
          have y1 := hbr.cell (j := 1) rfl
          clear hbr halr
          go_wp2_with fail
          go_roundw
          case rel => exact ⟨_, j + 1, rfl, HJL.out, by go_num, by rw [HN2.out] <;> exact congrArg _ (max_if u qt2), HC5.out⟩
          case measure => exact meas_two HJL.out
        · have hjj : ¬ (j : Int) < (brs.length : Int) := by omega
          have HE : Hid (timeOf (l0 ++ brs.take j) = timeOf ((ms.take (i + 1)).flatMap (fun m => m.b.rs))) := by
            unfold Hid
            rw [HNX2.out, show j = brs.length by omega, List.take_length]
          rw [HE.out]
          go_wp2_with fail
          go_roundw
          case rel => exact ⟨_, i + 1, rfl, HIL.out, by go_num, rfl, HC4.out⟩
          case measure => exact meas_two HIL.out
    · have hii : ¬ (i : Int) < (ms.length : Int) := by omega
      obtain rfl : i = ms.length := by omega
      rw [List.take_length]
      go_wp2_with fail
      go_ret
      exact ⟨rfl, HC.out⟩
end Go.Proofs.YtmaomebnigcgeaaGreatDoor
