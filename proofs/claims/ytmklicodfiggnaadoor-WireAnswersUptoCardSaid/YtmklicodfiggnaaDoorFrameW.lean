/-
  The walks of the two frames.
-/
import Derived.Test.YtmklicodfiggnaaDoorWriterW
import Derived.Test.YtmklicodfiggnaaDoorMakerW
import Derived.Outline
import Derived.Deep.QuietTactic
import Derived.BigQuiet
import Derived.Laws.MakeOwn
import Derived.Laws.OwnMore
import Derived.Deep.DeepCutAuto
set_option linter.unusedSimpArgs false
namespace Go.Proofs.YtmklicodfiggnaaDoor
open Go.RowKit

theorem make_any (n : Nat) (w : World) (hn : n ≤ 10000) :
    ∃ w', (Instr.makeSlice 25 (.int .i64 4) (.int .i64 (4 + (n : Int)))).run Tryd.prog w = .ok (.slice (some ⟨w.heap.size, 0, none⟩) 4 (4 + n)) w' ∧ Chg Nil w w' ∧ w'.heap.size = w.heap.size + 1 ∧ OwnB 5 w' (.slice (some ⟨w.heap.size, 0, none⟩) 4 (4 + n)) [0, 0, 0, 0] := by
  have h : (Tryd.prog.info? 5).map (fun i => (i.zero, i.size, i.bytes)) = some (some (.int .u8 0), 1, 1) := by kernel_rfl
  obtain ⟨i, hi, hz, h1, h2⟩ := info_parts h
  have hr := run_makeSlice (P := Tryd.prog) w 25 5 i (.int .u8 0) Tryd.underlying25 hi hz .i64 .i64 4 (4 + (n : Int)) (by omega) (by omega) (by rw [h1]; omega) (by rw [h2]; omega) (by omega)
  have e1 : ((4 : Int)).toNat = 4 := rfl
  have e2 : (4 + (n : Int)).toNat = 4 + n := by omega
  rw [e1, e2, h1, Nat.mul_one] at hr
  have hcs : (Value.int .u8 0).cells = #[.int .u8 0] := rfl
  rw [hcs] at hr
  refine ⟨_, hr, (Chg.refl _ _).alloc _, by simp, ?_⟩
  refine OwnB.made (l := [0, 0, 0, 0]) (heap_alloc_new w _) (size_madeCells _ _) (by simp) (by unfold maxLen; omega) ?_
  rw [toList_madeCells_one]
  simp [bval]

/-- What a frame's walk leaves. -/
def FramePost (g : Nat) (w : World) (s : WS) (bad : Nat → Value) (e : Ending) (w' : World) : Prop :=
  Chg (fun k => k = g) w w' ∧ ((frameErr s ≠ 0 ∧ e = .returned (.tuple #[.slice none 0 0, bad (frameErr s)])) ∨
    (frameErr s = 0 ∧ ∃ u, e = .returned (.tuple #[u, bad 0]) ∧ OwnB 5 w' u (frameB s) ∧ ∀ k, u.ownBlock = some k → w.heap.size ≤ k))

set_option maxHeartbeats 2000000 in
set_option maxRecDepth 100000 in
theorem wframe_any (g : Nat) (v : Value) (s : WS) (w : World) (hb : s.2 ≤ 100) (hs : s.1.length ≤ 10000000000000) (h : Wr 68 w g v s) :
    Calls Tryd.prog 30 #[.pointer (some ⟨g, 0, none⟩)] w (FramePost g w s (errV 26)) := by
  obtain ⟨L, bd⟩ := s
  simp only at hb hs
  have HE : Hid (frameErr (L, bd) = if bd ≠ 0 then bd else if 10000 < L.length then 4 else 0) := rfl
  have HF : Hid (frameB (L, bd) = four L.length ++ L) := rfl
  have hgl := h.lt
  obtain ⟨x, c, hv, hby, hlc⟩ := h.own.val
  subst hv
  have b0 := h.box.cell (j := 0) rfl
  have b1 := h.box.cell (j := 1) rfl
  have f1 := h.box.free 1
  have HH := Lib.hid h
  clear h
  go_enter Tryd.func30, Tryd.ntmps30
  by_cases hbd : bd = 0
  · subst hbd
    by_cases h10 : 10000 < L.length
    · have HX : Hid (frameErr (L, 0) = 4) := by unfold Hid; rw [HE.out]; simp [h10]
      have hi : (10000 : Int) < (L.length : Int) := by omega
      simp only [Int.cast_ofNat_Int] at b1
      go_upto_region 4 with fail
      have hset : Chg (fun k => k = g) w (w.setCell ⟨g, 1, none⟩ (.int .i64 4)) := (Chg.refl (fun k => k = g) _).setCell (.inl rfl) _
      have hbx := HH.out.box.set 1 (.int .i64 4)
      have q1 := hbx.cell (j := 1) rfl
      generalize w.setCell ⟨g, 1, none⟩ (.int .i64 4) = w1 at *
      clear b0 b1 f1
      go_quiet (fail)
      go_wp2
      go_ret2
      exact ⟨hset.drewN _, .inl ⟨by rw [HX.out]; simp, by rw [HX.out]; rfl⟩⟩
    · have HX : Hid (frameErr (L, 0) = 0) := by unfold Hid; rw [HE.out]; simp [h10]
      have hi : ¬ (10000 : Int) < (L.length : Int) := by omega
      have hL : L.length ≤ 10000 := by omega
      simp only [Int.cast_ofNat_Int] at b1
      obtain ⟨w1, hmk, hc1, hz1, hown1⟩ := make_any L.length w hL
      have HO1 := Lib.hid hown1
      clear hown1
      go_upto_region 6 with fail
      have HH1 : Hid (Wr 68 w1 g (.slice x L.length c) (L, 0)) := HH.out.chg hc1 (fun h => h) (fun _ _ h => h)
      have q0 := HH1.out.box.cell (j := 0) rfl
      have q1 := HH1.out.box.cell (j := 1) rfl
      clear b0 b1 f1 hmk
      generalize hpw : w.heap.size = p at *
      have HPW := Lib.hid hpw
      clear hpw
      go_wp2_with fail
      refine (four_any p 4 (4 + L.length) 0 (4 + L.length) 4 [0, 0, 0, 0] L.length w1 (by omega) (by simp) HO1.out).mono ?_
      rintro e w2 ⟨rfl, hown2, hc2⟩
      have e4 : List.take 0 [(0 : UInt8), 0, 0, 0] ++ four L.length ++ List.drop (0 + 4) [0, 0, 0, 0] = four L.length := by simp
      rw [e4] at hown2
      have hpg : p ≠ g := by omega
      have hpv : (Value.slice x L.length c).ownBlock ≠ some p := fun e => by have := HH.out.own.lt _ e; have := HPW.out; omega
      have HH2 : Hid (Wr 68 w2 g (.slice x L.length c) (L, 0)) := HH1.out.chg hc2 (fun e => hpg e.symm) (fun k hk e => hpv (by rw [hk, e]))
      have u0 := HH2.out.box.cell (j := 0) rfl
      have hq : (four L.length).length + L.length ≤ 140737488355328 := by simp [four]; omega
      have HQ := Lib.hid hq
      have HO2 := Lib.hid hown2
      have HSR : Hid (Source Tryd.prog w2 1 (.slice x L.length c) L.length (L.map bval)) := Source.own HH2.out.own
      clear hown2 hq q0 q1 e4
      go_wp2_with (at_builtin; go_must (refine wpList_append_bytes rfl (.tmp 45) (.tmp 49) 25 25 rfl bytesT _ Tryd.underlying25 (by intro _; simp) _ _ rfl HO2.out _ L rfl HSR.out HQ.out ?_); intro v3 w3 hown3 hg3 _)
      go_wp2
      go_ret2
      have hpz : p < w2.heap.size := by have := hc2.size; omega
      have hpw := HPW.out
      refine ⟨((hc1.weak (fun _ h => h.elim)).trans hc2 (fun i hi => .inr (by omega))).trans hg3.chg (fun i hi => .inr ?_), .inr ⟨HX.out, v3, rfl, by rw [HF.out]; exact hown3, fun k hk => ?_⟩⟩
      · have h : p = i := Option.some.inj hi
        omega
      · rcases hg3.own k hk with h | h
        · have h : p = k := Option.some.inj h
          omega
        · omega
  · have HX : Hid (frameErr (L, bd) = bd) := by unfold Hid; rw [HE.out, if_pos hbd]
    have hbi : ¬ ((bd : Int) = 0) := by omega
    go_wp2_with fail
    go_quiet (fail)
    go_wp2
    go_ret2
    refine ⟨(Chg.refl _ _).drewN _, .inl ⟨by rw [HX.out]; exact hbd, ?_⟩⟩
    rw [HX.out]
    unfold errV
    rw [if_neg hbd]
    rfl

/-- The region's chain: four, then the append. -/
def MFrF (n0 : Nat) (m L : List UInt8) : List Value → World → Prop
  | [], _ => True
  | [p], w => OwnB 5 w p m ∧ ∀ k, p.ownBlock = some k → n0 ≤ k
  | [_, q], w => OwnB 5 w q (m ++ L) ∧ ∀ k, q.ownBlock = some k → n0 ≤ k
  | _, _ => False

set_option maxHeartbeats 2000000 in
set_option maxRecDepth 100000 in
theorem mframe_any (g : Nat) (v : Value) (s : WS) (w : World) (hb : s.2 ≤ 100) (hs : s.1.length ≤ 10000000000000) (h : Wr 59 w g v s) :
    Calls Tryd.prog 27 #[.pointer (some ⟨g, 0, none⟩)] w (FramePost g w s (fun k => .int .i64 (k : Nat))) := by
  obtain ⟨L, bd⟩ := s
  simp only at hb hs
  have HE : Hid (frameErr (L, bd) = if bd ≠ 0 then bd else if 10000 < L.length then 4 else 0) := rfl
  have HF : Hid (frameB (L, bd) = four L.length ++ L) := rfl
  have hgl := h.lt
  obtain ⟨x, c, hv, hby, hlc⟩ := h.own.val
  subst hv
  have b0 := h.box.cell (j := 0) rfl
  have b1 := h.box.cell (j := 1) rfl
  have HH := Lib.hid h
  clear h
  go_enter Tryd.func27, Tryd.ntmps27
  by_cases hbd : bd = 0
  · subst hbd
    simp only [Int.cast_ofNat_Int] at b1
    by_cases h10 : 10000 < L.length
    · have HX : Hid (frameErr (L, 0) = 4) := by unfold Hid; rw [HE.out]; simp [h10]
      have hi : (10000 : Int) < (L.length : Int) := by omega
      go_wp2_with fail
      go_ret2
      exact ⟨Chg.refl _ _, .inl ⟨by rw [HX.out]; simp, by rw [HX.out]; rfl⟩⟩
    · have HX : Hid (frameErr (L, 0) = 0) := by unfold Hid; rw [HE.out]; simp [h10]
      have hi : ¬ (10000 : Int) < (L.length : Int) := by omega
      have hL : L.length ≤ 10000 := by omega
      have HLL : Hid ((four L.length).length + L.length ≤ 140737488355328) := by unfold Hid; simp [four]; omega
      have hvlt := HH.out.own.lt
      go_upto_region 5 with fail
      generalize hn0 : w.heap.size = n0 at *
      have HN0 := Lib.hid hn0
      clear hn0 b1
      refine Ch.wp_region_chain _ (Chg (fun k => n0 ≤ k)) [5, 10] (MFrF n0 (four L.length) L) (by kernel_rfl) (fun _ => Chg.refl _ _) (fun _ _ _ h k => h.trans k (fun _ h => .inl h)) [[], [0], [1], [2], [3], [4], [], [6], [7], [8], [5, 9], [10], []] rfl (by kernel_rfl) (by kernel_rfl) (Chg.refl _ _).drew ?_ ?_
      · trivial
      iterate 3 ((with_reducible apply Ch.Walk.eq); (case hd => rfl); (case hi => rfl); case h => (intro w2 hw2 N hN; simp only [Ch.depsOf, List.filterMap_nil, List.filterMap_cons, List.getElem?_toArray, List.getElem?_cons_zero, List.getElem?_cons_succ, Option.bind_some, List.nil_append, List.cons_append, Ch.Ob]; go_simp; (try go_bits); with_reducible exact hN _ (Chg.refl _ _) (fun _ h => h)))
      ((with_reducible apply Ch.Walk.eq); (case hd => rfl); (case hi => rfl); case h => (intro w2 hw2 N hN; (have hc := hw2.cell b0 (fun h => by have h : n0 ≤ g := h; omega)); simp only [Ch.depsOf, List.filterMap_nil, List.filterMap_cons, List.getElem?_toArray, List.getElem?_cons_zero, List.getElem?_cons_succ, Option.bind_some, List.nil_append, List.cons_append, Ch.Ob]; go_simp; (try go_bits); with_reducible exact hN _ (Chg.refl _ _) (fun _ h => h)))
      ((with_reducible apply Ch.Walk.eq); (case hd => rfl); (case hi => rfl); case h => (intro w2 hw2 N hN; simp only [Ch.depsOf, List.filterMap_nil, List.filterMap_cons, List.getElem?_toArray, List.getElem?_cons_zero, List.getElem?_cons_succ, Option.bind_some, List.nil_append, List.cons_append, Ch.Ob]; go_simp; (try go_bits); with_reducible exact hN _ (Chg.refl _ _) (fun _ h => h)))
      refine Ch.Walk.chain 0 rfl rfl ?_ ?_
      · intro w3 hw3 vs hvs hF N hN
        obtain rfl := List.eq_nil_of_length_eq_zero hvs
        simp only [Ch.depsOf, List.filterMap_nil, List.filterMap_cons, List.getElem?_toArray, List.getElem?_cons_zero, List.getElem?_cons_succ, Option.bind_some, List.nil_append, List.cons_append, Ch.Ob, Ch.chained_get, Option.map_some, List.idxOf?, List.findIdx?, List.findIdx?.go, Nat.reduceBEq, List.getD_cons_zero, List.getD_cons_succ, Nat.reduceAdd, if_true, if_false, Bool.false_eq_true]
        go_simp
        refine (refFour_any L.length w3 (by omega)).mono ?_
        rintro e w4 ⟨p, rfl, h1, h2, h3⟩
        exact ⟨_, rfl, hN _ _ (h2.weak (fun _ h => h.elim)) ⟨h1, fun k hk => by have := h3 k hk; have hz := hw3.size; have := HN0.out; omega⟩⟩
      iterate 3 ((with_reducible apply Ch.Walk.eq); (case hd => rfl); (case hi => rfl); case h => (intro w2 hw2 N hN; simp only [Ch.depsOf, List.filterMap_nil, List.filterMap_cons, List.getElem?_toArray, List.getElem?_cons_zero, List.getElem?_cons_succ, Option.bind_some, List.nil_append, List.cons_append, Ch.Ob]; go_simp; (try go_bits); with_reducible exact hN _ (Chg.refl _ _) (fun _ h => h)))
      ((with_reducible apply Ch.Walk.eq); (case hd => rfl); (case hi => rfl); case h => (intro w2 hw2 N hN; (have hc := hw2.cell b0 (fun h => by have h : n0 ≤ g := h; omega)); simp only [Ch.depsOf, List.filterMap_nil, List.filterMap_cons, List.getElem?_toArray, List.getElem?_cons_zero, List.getElem?_cons_succ, Option.bind_some, List.nil_append, List.cons_append, Ch.Ob]; go_simp; (try go_bits); with_reducible exact hN _ (Chg.refl _ _) (fun _ h => h)))
      refine Ch.Walk.chain 1 rfl rfl ?_ ?_
      · intro w3 hw3 vs hvs hF N hN
        obtain ⟨p, rfl⟩ := List.length_eq_one_iff.1 hvs
        obtain ⟨f1, f2⟩ := hF
        have ho3 : OwnB 5 w3 (.slice x L.length c) L := HH.out.own.chg hw3 (fun k hk e => by
          have := hvlt k hk
          have e : n0 ≤ k := e
          omega)
        simp only [Ch.depsOf, List.filterMap_nil, List.filterMap_cons, List.getElem?_toArray, List.getElem?_cons_zero, List.getElem?_cons_succ, Option.bind_some, List.nil_append, List.cons_append, Ch.Ob, Ch.chained_get, Option.map_some, List.idxOf?, List.findIdx?, List.findIdx?.go, Nat.reduceBEq, List.getD_cons_zero, List.getD_cons_succ, Nat.reduceAdd, if_true, if_false, Bool.false_eq_true]
        refine Ch.if_append rfl (.tmp 24) (.tmp 28) 25 25 rfl bytesT _ Tryd.underlying25 (by intro _; simp) p _ rfl f1 _ L rfl (Source.own ho3) HLL.out (fun v' w' h1 h2 => hN _ _ ?_ ?_)
        · exact h2.chg.weak (fun i hi => .inl (f2 i hi))
        · exact ⟨h1, fun k hk => (h2.own k hk).elim (f2 k) fun h => by have hz := hw3.size; have := HN0.out; omega⟩
      refine Ch.Walk.copy 10 rfl rfl rfl ⟨rfl, 29, .inr rfl, rfl⟩ ?_
      ((with_reducible apply Ch.Walk.eq); (case hd => rfl); (case hi => rfl); case h => (intro w2 hw2 N hN; simp only [Ch.depsOf, List.filterMap_nil, List.filterMap_cons, List.getElem?_toArray, List.getElem?_cons_zero, List.getElem?_cons_succ, Option.bind_some, List.nil_append, List.cons_append, Ch.Ob]; go_simp; (try go_bits); with_reducible exact hN _ (Chg.refl _ _) (fun _ h => h)))
      intro w6 hw6
      simp only [List.nil_append, List.cons_append, Ch.Fin, List.map_cons, List.map_nil, List.getD_cons_zero, List.getD_cons_succ]
      intro v1 _ v2 _ hF
      have f1 : OwnB 5 w6 v2 (four L.length ++ L) := hF.1
      have f2 : ∀ k, v2.ownBlock = some k → n0 ≤ k := hF.2
      clear hF
      have HF1 := Lib.hid f1
      clear f1
      go_simp
      go_wp2_with fail
      go_ret2
      refine ⟨hw6.weak (fun i hi => .inr (by have hi : n0 ≤ i := hi; have := HN0.out; omega)), .inr ⟨HX.out, v2, rfl, by rw [HF.out]; exact HF1.out, fun k hk => by have := f2 k hk; have := HN0.out; omega⟩⟩
  · have HX : Hid (frameErr (L, bd) = bd) := by unfold Hid; rw [HE.out, if_pos hbd]
    have hbi : ¬ ((bd : Int) = 0) := by omega
    go_wp2_with fail
    go_quiet (fail)
    go_wp2
    go_ret2
    refine ⟨(Chg.refl _ _).drewN _, .inl ⟨by rw [HX.out]; exact hbd, ?_⟩⟩
    rw [HX.out]
    rfl
end Go.Proofs.YtmklicodfiggnaaDoor
