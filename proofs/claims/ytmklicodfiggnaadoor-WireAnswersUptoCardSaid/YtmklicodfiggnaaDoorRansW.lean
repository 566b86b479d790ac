/-
  The walk of the program's answer, read.
-/
import Derived.Test.YtmklicodfiggnaaDoorTopsW
import Derived.Test.YtmklicodfiggnaaDoorRecsRW
import Derived.Test.YtmklicodfiggnaaDoorMakerW
import Derived.Test.YtmklicodfiggnaaDoorLast2
import Derived.Outline
import Derived.Deep.DeepCutAuto
set_option linter.unusedSimpArgs false
namespace Go.Proofs.YtmklicodfiggnaaDoor
open Go.RowKit

/-- What the operations of an append of a topic leave, one by one. -/
def TpF (g b n0 : Nat) (u : Value) (acc : List Tp) (s : St) (t : Tp) : List Value → World → Prop
  | [], w => RdS w g b s ∧ OwnT 74 w u acc
  | [v1], w => RdS w g b (wText 40 s).2 ∧ OwnT 74 w u acc ∧ v1 = .string ⟨(wText 40 s).1.toArray⟩
  | [v1, v2], w => RdS w g b (numS (wText 40 s).2).2 ∧ OwnT 74 w u acc ∧ v1 = .string ⟨(wText 40 s).1.toArray⟩ ∧ v2 = .int .i64 ((numS (wText 40 s).2).1 : Nat)
  | [v1, v2, v3], w => RdS w g b (tpS wText s).2 ∧ OwnT 74 w u acc ∧ v1 = .string ⟨(wText 40 s).1.toArray⟩ ∧ v2 = .int .i64 ((numS (wText 40 s).2).1 : Nat) ∧ v3 = .bool (truthS (numS (wText 40 s).2).2).1
  | [_, _, _, v4], w => RdS w g b (tpS wText s).2 ∧ OwnT 74 w u acc ∧ v4 = .agg #[.string ⟨(wText 40 s).1.toArray⟩, .int .i64 ((numS (wText 40 s).2).1 : Nat), .bool (truthS (numS (wText 40 s).2).2).1]
  | [_, _, _, _, v], w => RdS w g b (tpS wText s).2 ∧ OwnT 74 w u acc ∧ ∃ p, v = .slice (some ⟨p, 0, none⟩) 1 1 ∧ Box w p t.cells 74 ∧ n0 ≤ p
  | [_, _, _, _, _, v], w => RdS w g b (tpS wText s).2 ∧ OwnT 74 w v (acc ++ [t]) ∧ ∀ k, v.ownBlock = some k → u.ownBlock = some k ∨ n0 ≤ k
  | _, _ => False

/-- What reading an answer leaves. -/
def AnsPost (txt : Nat → St → List UInt8 × St) (g b x k c e : Nat) (s : St) (w w' : World) : Prop :=
  ∃ v u, RdS w' g b (ansS txt k (ar0 k c e) s).2 ∧ Box w' x (arCells (ansS txt k (ar0 k c e) s).1 v u) 37 ∧
    OwnR 99 w' v (ansS txt k (ar0 k c e) s).1.recs ∧ OwnT 74 w' u (ansS txt k (ar0 k c e) s).1.tops ∧
    (∀ i, v.ownBlock = some i → w.heap.size ≤ i) ∧ (∀ i, u.ownBlock = some i → w.heap.size ≤ i) ∧ Chg (fun i => i = g ∨ i = x) w w'

set_option maxHeartbeats 4000000 in
set_option maxRecDepth 100000 in
theorem ranswer_any (g b x k c e : Nat) (s : St) (w : World) (hbw : b < w.heap.size) (hgx : g ≠ x) (hbx : b ≠ x) (h : RdS w g b s) (hx : Box w x (arCells (ar0 k c e) (.slice none 0 0) (.slice none 0 0)) 37) :
    Calls Tryd.prog 45 #[.pointer (some ⟨g, 0, none⟩), .pointer (some ⟨x, 0, none⟩)] w fun en w' => en = .returned (.tuple #[]) ∧ AnsPost wText g b x k c e s w w' := by
  have hgw : g < w.heap.size := by obtain ⟨_, _, h⟩ := h; exact World.block_lt_of_cell? _ _ h.c0
  have hxw : x < w.heap.size := (Array.getElem?_eq_some_iff.1 hx).1
  have hxg : x ≠ g := fun e => hgx e.symm
  have HR := Lib.hid h
  have q0 := hx.cell (j := 0) rfl
  have HX := Lib.hid hx
  clear h hx
  simp only [ar0] at q0
  go_enter Tryd.func45, Tryd.ntmps45
  go_upto_region 1 with fail
  by_cases h1 : k = 1
  · subst h1
    clear q0
    go_wp2_with fail
    refine (rnum_st g b s w HR.out).mono ?_
    rintro en w1 ⟨rfl, hc1, hr1⟩
    have hx1 := HX.out.chg hc1 hxg
    have q3 := hx1.cell (j := 3) rfl
    have y3 := hx1.free 3
    have HX1 := Lib.hid (hx1.set 3 (.int .i64 ((numS s).1 : Nat)))
    have hcs : Chg (fun i => i = x) w1 (w1.setCell ⟨x, 3, none⟩ (.int .i64 ((numS s).1 : Nat))) := (Chg.refl (fun i => i = x) w1).setCell (.inl rfl) _
    have HR1 := Lib.hid (hr1.chg hcs hgx hbx)
    have HC1 := Lib.hid ((hc1.weak (S' := fun i => i = g ∨ i = x) (fun _ h => .inl (.inl h))).trans hcs (fun _ h => .inl (.inr h)))
    clear hx1 hc1 hr1 hcs
    go_wp2_with fail
    go_end0
    exact ⟨rfl, .slice none 0 0, .slice none 0 0, HR1.out, HX1.out, OwnR.nil _ _, OwnT.nil _ _, by simp [Value.ownBlock], by simp [Value.ownBlock], HC1.out⟩
  have h1' : ¬ (k : Int) = 1 := by omega
  by_cases h2 : k = 2
  · subst h2
    clear q0
    go_wp2_with fail
    refine (rnum_st g b s w HR.out).mono ?_
    rintro en w1 ⟨rfl, hc1, hr1⟩
    have HX1 := Lib.hid (HX.out.chg hc1 hxg)
    have HR1 := Lib.hid hr1
    have HC1 := Lib.hid (hc1.weak (S' := fun i => i = g ∨ i = x) (fun _ h => .inl (.inl h)))
    clear hc1 hr1
    go_wp2_with fail
    refine (rnum_st g b _ w1 HR1.out).mono ?_
    rintro en w2 ⟨rfl, hc2, hr2⟩
    have hx2 := HX1.out.chg hc2 hxg
    have q4 := hx2.cell (j := 4) rfl
    have y4 := hx2.free 4
    have q5 := hx2.cell (j := 5) rfl
    have y5 := hx2.free 5
    have hcs : Chg (fun i => i = x) w2 ((w2.setCell ⟨x, 4, none⟩ (.int .i64 ((numS s).1 : Nat))).setCell ⟨x, 5, none⟩ (.int .i64 ((numS (numS s).2).1 : Nat))) := ((Chg.refl (fun i => i = x) w2).setCell (.inl rfl) _).setCell (.inl rfl) _
    have HX3 := Lib.hid ((hx2.set 4 (.int .i64 ((numS s).1 : Nat))).set 5 (.int .i64 ((numS (numS s).2).1 : Nat)))
    have HR3 := Lib.hid (hr2.chg hcs hgx hbx)
    have HC3 := Lib.hid ((HC1.out.trans hc2 (fun _ h => .inl (.inl h))).trans hcs (fun _ h => .inl (.inr h)))
    clear hx2 hc2 hr2 hcs HX1 HR1 HC1
    go_upto_region 5 with fail
    clear q4 y4 q5 y5
    generalize ((w2.setCell ⟨x, 4, none⟩ (.int .i64 ((numS s).1 : Nat))).setCell ⟨x, 5, none⟩ (.int .i64 ((numS (numS s).2).1 : Nat))) = w3 at *
    go_wp2_with fail
    refine (rrecs_st true g b _ w3 (by have := HC3.out.size; omega) HR3.out).mono ?_
    rintro en w4 ⟨v, rfl, hc4, hr4, hown, hfr⟩
    obtain ⟨vx, vn, vc, rfl⟩ := ownsRow_form hown
    have hx4 := HX3.out.chg hc4 hxg
    have q7 := hx4.cell (j := 7) rfl
    have y7 := hx4.free 7
    have hcs : Chg (fun i => i = x) w4 (w4.setCell ⟨x, 7, none⟩ (.slice vx vn vc)) := (Chg.refl (fun i => i = x) w4).setCell (.inl rfl) _
    have HX5 := Lib.hid (hx4.set 7 (.slice vx vn vc))
    have HR5 := Lib.hid (hr4.chg hcs hgx hbx)
    have hfx : ∀ i, (Value.slice vx vn vc).ownBlock = some i → w.heap.size ≤ i := fun i hi => by have := hfr i hi; have := HC3.out.size; omega
    have HO5 := Lib.hid (ownsRow_chg hown hcs (fun i hi e => by have := hfx i hi; omega))
    have HC5 := Lib.hid ((HC3.out.trans hc4 (fun _ h => .inl (.inl h))).trans hcs (fun _ h => .inl (.inr h)))
    clear hx4 hc4 hr4 hcs hown HX3 HR3 HC3
    go_wp2_with fail
    go_end0
    exact ⟨rfl, .slice vx vn vc, .slice none 0 0, HR5.out, HX5.out, HO5.out, OwnT.nil _ _, hfx, by simp [Value.ownBlock], HC5.out⟩
  have h2' : ¬ (k : Int) = 2 := by omega
  by_cases h3 : k = 3
  · subst h3
    clear q0
    go_wp2_with fail
    refine (rtruth_st g b s w HR.out).mono ?_
    rintro en w1 ⟨rfl, hc1, hr1⟩
    have HAN : Hid (ansS wText 3 (ar0 3 c e) s = ({ ar0 3 c e with found := (truthS s).1, offset := (offF (truthS s).1 (truthS s).2).1 }, (offF (truthS s).1 (truthS s).2).2)) := rfl
    generalize (truthS s).1 = fd at *
    generalize (truthS s).2 = s1 at *
    have hx1 := HX.out.chg hc1 hxg
    have q6 := hx1.cell (j := 6) rfl
    have y6 := hx1.free 6
    have hx2 := hx1.set 6 (.bool fd)
    have hcs : Chg (fun i => i = x) w1 (w1.setCell ⟨x, 6, none⟩ (.bool fd)) := (Chg.refl (fun i => i = x) w1).setCell (.inl rfl) _
    have HR1 := Lib.hid (hr1.chg hcs hgx hbx)
    have HC1 := Lib.hid ((hc1.weak (S' := fun i => i = g ∨ i = x) (fun _ h => .inl (.inl h))).trans hcs (fun _ h => .inl (.inr h)))
    clear hx1 hc1 hr1 hcs
    go_upto_region 8 with fail
    clear q6 y6
    generalize w1.setCell ⟨x, 6, none⟩ (.bool fd) = w2 at *
    have q6 := hx2.cell (j := 6) rfl
    have HX2 := Lib.hid hx2
    clear hx2
    cases fd
    · go_wp2_with fail
      go_end0
      refine ⟨rfl, .slice none 0 0, .slice none 0 0, ?_⟩
      rw [HAN.out]
      exact ⟨HR1.out, HX2.out, OwnR.nil _ _, OwnT.nil _ _, by simp [Value.ownBlock], by simp [Value.ownBlock], HC1.out⟩
    · go_wp2_with fail
      refine (rnum_st g b s1 w2 HR1.out).mono ?_
      rintro en w3 ⟨rfl, hc3, hr3⟩
      have hx3 := HX2.out.chg hc3 hxg
      have q3 := hx3.cell (j := 3) rfl
      have y3 := hx3.free 3
      have HX4 := Lib.hid (hx3.set 3 (.int .i64 ((numS s1).1 : Nat)))
      have hcs : Chg (fun i => i = x) w3 (w3.setCell ⟨x, 3, none⟩ (.int .i64 ((numS s1).1 : Nat))) := (Chg.refl (fun i => i = x) w3).setCell (.inl rfl) _
      have HR4 := Lib.hid (hr3.chg hcs hgx hbx)
      have HC4 := Lib.hid ((HC1.out.trans hc3 (fun _ h => .inl (.inl h))).trans hcs (fun _ h => .inl (.inr h)))
      clear hx3 hc3 hr3 hcs q6
      go_wp2_with fail
      go_end0
      refine ⟨rfl, .slice none 0 0, .slice none 0 0, ?_⟩
      rw [HAN.out]
      exact ⟨HR4.out, HX4.out, OwnR.nil _ _, OwnT.nil _ _, by simp [Value.ownBlock], by simp [Value.ownBlock], HC4.out⟩
  have h3' : ¬ (k : Int) = 3 := by omega
  by_cases h4 : k = 4
  · subst h4
    clear q0
    go_wp2_with fail
    refine (rnum_st g b s w HR.out).mono ?_
    rintro en w1 ⟨rfl, hc1, hr1⟩
    have hx1 := HX.out.chg hc1 hxg
    have q4 := hx1.cell (j := 4) rfl
    have y4 := hx1.free 4
    have HX1 := Lib.hid (hx1.set 4 (.int .i64 ((numS s).1 : Nat)))
    have hcs : Chg (fun i => i = x) w1 (w1.setCell ⟨x, 4, none⟩ (.int .i64 ((numS s).1 : Nat))) := (Chg.refl (fun i => i = x) w1).setCell (.inl rfl) _
    have HR1 := Lib.hid (hr1.chg hcs hgx hbx)
    have HC1 := Lib.hid ((hc1.weak (S' := fun i => i = g ∨ i = x) (fun _ h => .inl (.inl h))).trans hcs (fun _ h => .inl (.inr h)))
    clear hx1 hc1 hr1 hcs
    go_wp2_with fail
    go_end0
    exact ⟨rfl, .slice none 0 0, .slice none 0 0, HR1.out, HX1.out, OwnR.nil _ _, OwnT.nil _ _, by simp [Value.ownBlock], by simp [Value.ownBlock], HC1.out⟩
  have h4' : ¬ (k : Int) = 4 := by omega
  by_cases h7 : k = 7
  · subst h7
    clear q0
    go_wp2_with fail
    refine (rnum_st g b s w HR.out).mono ?_
    rintro en wz ⟨rfl, hcz, hrz⟩
    have HAN : Hid (ansS wText 7 (ar0 7 c e) s = ({ ar0 7 c e with tops := (topsL wText (numS s).1 (numS s).2 []).1 }, (topsL wText (numS s).1 (numS s).2 []).2)) := rfl
    have hn := numS_le s
    generalize (numS s).1 = m at *
    generalize (numS s).2 = s3 at *
    have hxz := HX.out.chg hcz hxg
    have hcz' := hcz.weak (S' := fun i => i = g ∨ i = x) (fun _ h => .inl (.inl h))
    clear HR hcz
    go_wp2_with fail
    go_loopw [4] (fun i wr => ∃ (k : Nat) (acc : List Tp) (s1 : St) (u : Value), k ≤ m ∧ i = .int .i64 ((m - k : Nat) : Int) ∧ acc.length = k ∧ topsL wText m s3 [] = topsL wText (m - k) s1 acc ∧ RdS wr g b s1 ∧
      OwnT 74 wr u acc ∧ (∀ i, u.ownBlock = some i → w.heap.size ≤ i) ∧ Box wr x (arCells (ar0 7 c e) (.slice none 0 0) u) 37 ∧ Chg (fun i => i = g ∨ i = x) w wr) (fun i _ => (intOf i).toNat)
    case atStart => exact ⟨0, [], s3, .slice none 0 0, Nat.zero_le _, rfl, rfl, rfl, hrz, OwnT.nil _ _, by simp [Value.ownBlock], hxz, hcz'⟩
    case round =>
      obtain ⟨k, acc, s1, u, hk, rfl, hlen2, HD, hr, hown, hub, hxr, hch⟩ := hrel
      clear hrz hcz' hxz
      have hmk : ((m - k : Nat) : Int) = (m : Int) - k := by omega
      obtain ⟨ux, un, uc, rfl⟩ := ownsRow_form hown
      by_cases hgo : k < m ∧ s1.2 = false
      · obtain ⟨hkm, hb0⟩ := hgo
        have c1 := hr.b1
        rw [hb0] at c1
        have hpos : (0 : Int) < ((m - k : Nat) : Int) := by omega
        have HOW := Lib.hid hown
        have HDD := Lib.hid HD
        have HR0 := Lib.hid hr
        have hwz : w.heap.size ≤ wr.heap.size := hch.size
        have HXR := Lib.hid hxr
        have hc8 := hxr.cell (j := 8) rfl
        have hul : ∀ i, (Value.slice ux un uc).ownBlock = some i → i < wr.heap.size := fun i hi => ownsRow_lt hown i hi
        have hgn : g < wr.heap.size := by omega
        have hbn : b < wr.heap.size := by omega
        have hxn : x < wr.heap.size := by omega
        have HND : Hid ((tpS wText s1) = ({ name := ⟨(wText 40 s1).1.toArray⟩, parts := (numS (wText 40 s1).2).1, compact := (truthS (numS (wText 40 s1).2).2).1 }, (truthS (numS (wText 40 s1).2).2).2)) := rfl
        clear hown HD hr hxr hmk HX
        go_upto_region 16 with fail
        clear c1 hpos
        obtain ⟨n0, hn0⟩ : ∃ n0, n0 = wr.heap.size := ⟨_, rfl⟩
        rw [← hn0] at hgn hbn hxn hul hwz
        have HN0 := Lib.hid hn0
        clear hn0
        have hnx : ¬ (x = g ∨ (Value.slice ux un uc).ownBlock = some x ∨ n0 ≤ x) := fun h => h.elim (fun h => hxg h) fun h => h.elim (fun h => by have := hub x h; omega) fun h => by omega
        refine Ch.wp_region_last2 _ _ rfl (Chg (fun i => i = g ∨ (Value.slice ux un uc).ownBlock = some i ∨ n0 ≤ i)) [6, 8, 10, 11, 12, 13] (TpF g b n0 (.slice ux un uc) acc s1 (tpS wText s1).1) (by kernel_rfl) (fun _ => Chg.refl _ _) (fun _ _ _ h k => h.trans k (fun _ h => .inl h)) [[], [], [1], [2], [3], [], [5], [], [7], [], [9], [6, 8, 10], [11], [4, 12], [0], [14]] rfl (by kernel_rfl) (by kernel_rfl) (by kernel_rfl) (Chg.refl _ _).drew ?_ ?_
        · exact ⟨HR0.out.chg (Chg.refl Nil _).drew (fun h => h) (fun h => h), ownsRow_chg HOW.out (Chg.refl Nil _).drew (fun _ _ h => h)⟩
        simp only [List.dropLast_cons_cons, List.dropLast_singleton]
        iterate 4 ((with_reducible apply Ch.Walk.eq); (case hd => rfl); (case hi => rfl); case h => (intro w2 hw2 N hN; simp only [Ch.depsOf, List.filterMap_nil, List.filterMap_cons, List.getElem?_toArray, List.getElem?_cons_zero, List.getElem?_cons_succ, Option.bind_some, List.nil_append, List.cons_append, Ch.Ob]; go_simp; (try go_bits); with_reducible exact hN _ (Chg.refl _ _) (fun _ h => h)))
        ((with_reducible apply Ch.Walk.eq); (case hd => rfl); (case hi => rfl); case h => (intro w2 hw2 N hN; (have hc := hw2.cell hc8 hnx); simp only [Ch.depsOf, List.filterMap_nil, List.filterMap_cons, List.getElem?_toArray, List.getElem?_cons_zero, List.getElem?_cons_succ, Option.bind_some, List.nil_append, List.cons_append, Ch.Ob]; go_simp; (try go_bits); with_reducible exact hN _ (Chg.refl _ _) (fun _ h => h)))
        ((with_reducible apply Ch.Walk.eq); (case hd => rfl); (case hi => rfl); case h => (intro w2 hw2 N hN; simp only [Ch.depsOf, List.filterMap_nil, List.filterMap_cons, List.getElem?_toArray, List.getElem?_cons_zero, List.getElem?_cons_succ, Option.bind_some, List.nil_append, List.cons_append, Ch.Ob]; go_simp; (try go_bits); with_reducible exact hN _ (Chg.refl _ _) (fun _ h => h)))
        refine Ch.Walk.chainE 0 (c := .string ⟨(wText 40 s1).1.toArray⟩) rfl rfl ?_ ?_
        · intro w3 hw3 vs hvs hF N hN
          obtain rfl := List.eq_nil_of_length_eq_zero hvs
          simp only [Ch.depsOf, List.filterMap_nil, List.filterMap_cons, List.getElem?_toArray, List.getElem?_cons_zero, List.getElem?_cons_succ, Option.bind_some, List.nil_append, List.cons_append, Ch.Ob, Ch.chained_get, Option.map_some, List.idxOf?, List.findIdx?, List.findIdx?.go, Nat.reduceBEq, List.getD_cons_zero, List.getD_cons_succ, Nat.reduceAdd, if_true, if_false, Bool.false_eq_true]
          go_simp
          refine (rtext_st 40 g b s1 w3 hF.1).mono ?_
          rintro en w4 ⟨rfl, hc, hr⟩
          exact ⟨_, rfl, hN _ (hc.weak (fun _ h => .inl (.inl h))) ⟨hr, ownsRow_chg hF.2 hc (fun i hi e => by have := hub i hi; omega), rfl⟩⟩
        ((with_reducible apply Ch.Walk.eq); (case hd => rfl); (case hi => rfl); case h => (intro w2 hw2 N hN; simp only [Ch.depsOf, List.filterMap_nil, List.filterMap_cons, List.getElem?_toArray, List.getElem?_cons_zero, List.getElem?_cons_succ, Option.bind_some, List.nil_append, List.cons_append, Ch.Ob]; go_simp; (try go_bits); with_reducible exact hN _ (Chg.refl _ _) (fun _ h => h)))
        refine Ch.Walk.chainE 1 (c := .int .i64 ((numS (wText 40 s1).2).1 : Nat)) rfl rfl ?_ ?_
        · intro w3 hw3 vs hvs hF N hN
          obtain ⟨v1, rfl⟩ := List.length_eq_one_iff.1 hvs
          simp only [Ch.depsOf, List.filterMap_nil, List.filterMap_cons, List.getElem?_toArray, List.getElem?_cons_zero, List.getElem?_cons_succ, Option.bind_some, List.nil_append, List.cons_append, Ch.Ob, Ch.chained_get, Option.map_some, List.idxOf?, List.findIdx?, List.findIdx?.go, Nat.reduceBEq, List.getD_cons_zero, List.getD_cons_succ, Nat.reduceAdd, if_true, if_false, Bool.false_eq_true]
          go_simp
          refine (rnum_st g b (wText 40 s1).2 w3 hF.1).mono ?_
          rintro en w4 ⟨rfl, hc, hr⟩
          exact ⟨_, rfl, hN _ (hc.weak (fun _ h => .inl (.inl h))) ⟨hr, ownsRow_chg hF.2.1 hc (fun i hi e => by have := hub i hi; omega), hF.2.2, rfl⟩⟩
        ((with_reducible apply Ch.Walk.eq); (case hd => rfl); (case hi => rfl); case h => (intro w2 hw2 N hN; simp only [Ch.depsOf, List.filterMap_nil, List.filterMap_cons, List.getElem?_toArray, List.getElem?_cons_zero, List.getElem?_cons_succ, Option.bind_some, List.nil_append, List.cons_append, Ch.Ob]; go_simp; (try go_bits); with_reducible exact hN _ (Chg.refl _ _) (fun _ h => h)))
        refine Ch.Walk.chainE 2 (c := .bool (truthS (numS (wText 40 s1).2).2).1) rfl rfl ?_ ?_
        · intro w3 hw3 vs hvs hF N hN
          obtain ⟨v1, v2, rfl⟩ := length_two hvs
          simp only [Ch.depsOf, List.filterMap_nil, List.filterMap_cons, List.getElem?_toArray, List.getElem?_cons_zero, List.getElem?_cons_succ, Option.bind_some, List.nil_append, List.cons_append, Ch.Ob, Ch.chained_get, Option.map_some, List.idxOf?, List.findIdx?, List.findIdx?.go, Nat.reduceBEq, List.getD_cons_zero, List.getD_cons_succ, Nat.reduceAdd, if_true, if_false, Bool.false_eq_true]
          go_simp
          refine (rtruth_st g b (numS (wText 40 s1).2).2 w3 hF.1).mono ?_
          rintro en w4 ⟨rfl, hc, hr⟩
          exact ⟨_, rfl, hN _ (hc.weak (fun _ h => .inl (.inl h))) ⟨hr, ownsRow_chg hF.2.1 hc (fun i hi e => by have := hub i hi; omega), hF.2.2.1, hF.2.2.2, rfl⟩⟩
        refine Ch.Walk.chainE 3 (c := .agg #[.string ⟨(wText 40 s1).1.toArray⟩, .int .i64 ((numS (wText 40 s1).2).1 : Nat), .bool (truthS (numS (wText 40 s1).2).2).1]) rfl rfl ?_ ?_
        · intro w3 hw3 vs hvs hF N hN
          obtain ⟨v1, v2, v3, rfl⟩ := length_three hvs
          simp only [Ch.depsOf, List.filterMap_nil, List.filterMap_cons, List.getElem?_toArray, List.getElem?_cons_zero, List.getElem?_cons_succ, Option.bind_some, List.nil_append, List.cons_append, Ch.Ob, Ch.chained_get, Option.map_some, List.idxOf?, List.findIdx?, List.findIdx?.go, Nat.reduceBEq, List.getD_cons_zero, List.getD_cons_succ, Nat.reduceAdd, if_true, if_false, Bool.false_eq_true]
          obtain ⟨e0, e1, rfl, rfl, rfl⟩ := hF
          have hN1 := hN w3 (Chg.refl _ _) ⟨e0, e1, rfl⟩
          have HN1 := Lib.hid hN1
          clear hN hN1
          go_simp
          exact HN1.out
        refine Ch.Walk.chain 4 rfl rfl ?_ ?_
        · intro w3 hw3 vs hvs hF N hN
          obtain ⟨v1, v2, v3, v4, rfl⟩ := length_four hvs
          simp only [Ch.depsOf, List.filterMap_nil, List.filterMap_cons, List.getElem?_toArray, List.getElem?_cons_zero, List.getElem?_cons_succ, Option.bind_some, List.nil_append, List.cons_append, Ch.Ob, Ch.chained_get, Option.map_some, List.idxOf?, List.findIdx?, List.findIdx?.go, Nat.reduceBEq, List.getD_cons_zero, List.getD_cons_succ, Nat.reduceAdd, if_true, if_false, Bool.false_eq_true]
          obtain ⟨e0, e1, rfl⟩ := hF
          go_simp
          have hal := (Chg.refl Nil w3).alloc (.cells #[.string ⟨(wText 40 s1).1.toArray⟩, .int .i64 ((numS (wText 40 s1).2).1 : Nat), .bool (truthS (numS (wText 40 s1).2).2).1] 74)
          exact hN _ _ (hal.weak (fun _ h => h.elim)) ⟨e0.chg hal (fun h => h) (fun h => h), ownsRow_chg e1 hal (fun _ _ h => h), w3.heap.size, rfl, Box.new w3 (tpS wText s1).1.cells _, by have := hw3.size; rw [HN0.out]; exact this⟩
        refine Ch.Walk.chain 5 rfl rfl ?_ ?_
        · intro w3 hw3 vs hvs hF N hN
          obtain ⟨v1, v2, v3, v4, v5, rfl⟩ := length_five hvs
          simp only [Ch.depsOf, List.filterMap_nil, List.filterMap_cons, List.getElem?_toArray, List.getElem?_cons_zero, List.getElem?_cons_succ, Option.bind_some, List.nil_append, List.cons_append, Ch.Ob, Ch.chained_get, Option.map_some, List.idxOf?, List.findIdx?, List.findIdx?.go, Nat.reduceBEq, List.getD_cons_zero, List.getD_cons_succ, Nat.reduceAdd, if_true, if_false, Bool.false_eq_true]
          obtain ⟨f1, f2, p, rfl, f3, f4⟩ := hF
          refine Ch.if_append_row rfl (.tmp 75) (.tmp 83) 35 35 rfl topsT _ Tryd.underlying35 (by intro _; simp) (.slice ux un uc) acc.length (acc.flatMap Tp.cells) rfl f2 (.slice (some ⟨p, 0, none⟩) 1 1) 1 (tpS wText s1).1.cells rfl (Source.box f3 rfl (Tp.cells_one _)) (by unfold maxLen; omega) (by omega) (fun v' w' h1 h2 => hN _ _ ?_ ?_)
          · exact h2.chg.weak (fun i hi => .inl (.inr (.inl hi)))
          · refine ⟨f1.chg h2.chg (fun h => by have := hub _ h; omega) (fun h => by have := hub _ h; omega), ?_, fun k hk => (h2.own k hk).imp id fun h => by have hz : wr.heap.size ≤ w3.heap.size := hw3.size; have := HN0.out; omega⟩
            unfold OwnT
            rw [List.length_append, List.flatMap_append]
            simpa using h1
        iterate 2 ((with_reducible apply Ch.Walk.eq); (case hd => rfl); (case hi => rfl); case h => (intro w2 hw2 N hN; simp only [Ch.depsOf, List.filterMap_nil, List.filterMap_cons, List.getElem?_toArray, List.getElem?_cons_zero, List.getElem?_cons_succ, Option.bind_some, List.nil_append, List.cons_append, Ch.Ob]; go_simp; (try go_bits); with_reducible exact hN _ (Chg.refl _ _) (fun _ h => h)))
        intro w6 hw6
        simp only [List.nil_append, List.cons_append, Ch.Fin, List.map_cons, List.map_nil, List.getD_cons_zero, List.getD_cons_succ]
        intro v5 _ v6 _ hF
        have f0 : RdS w6 g b (tpS wText s1).2 := hF.1
        have f1 : OwnT 74 w6 v6 (acc ++ [(tpS wText s1).1]) := hF.2.1
        have f2 : ∀ k, v6.ownBlock = some k → (Value.slice ux un uc).ownBlock = some k ∨ n0 ≤ k := hF.2.2
        clear hF
        have HD6 : Hid (topsL wText m s3 [] = topsL wText (m - (k + 1)) (tpS wText s1).2 (acc ++ [(tpS wText s1).1])) := by
          unfold Hid
          rw [HDD.out, show m - k = m - (k + 1) + 1 by omega, topsL_on hb0]
        generalize (tpS wText s1).1 = tp at *
        generalize (tpS wText s1).2 = q6 at *
        have hv2 := form_eq (ownsRow_form f1)
        generalize vA v6 = x2 at hv2
        generalize vN v6 = m2 at hv2
        generalize vC v6 = c2 at hv2
        subst hv2
        simp only [Ch.Then, Oper.wp]
        have hx6 := HXR.out.chg hw6 hnx
        have q8 := hx6.cell (j := 8) rfl
        have y8 := hx6.free 8
        have hv2 : ∀ i, (Value.slice x2 m2 c2).ownBlock = some i → w.heap.size ≤ i := fun i hi => (f2 i hi).elim (hub i) fun h => by omega
        have hcs : Chg (fun i => i = x) w6 (w6.setCell ⟨x, 8, none⟩ (.slice x2 m2 c2)) := (Chg.refl (fun i => i = x) w6).setCell (.inl rfl) _
        have HX7 := Lib.hid (hx6.set 8 (.slice x2 m2 c2))
        have HR7 := Lib.hid (f0.chg hcs hgx hbx)
        have HO7 := Lib.hid (ownsRow_chg f1 hcs (fun i hi e => by have := hv2 i hi; omega))
        have HC7 := Lib.hid ((hch.trans hw6 (fun i hi => hi.elim (fun h => .inl (.inl h)) fun h => h.elim (fun h => .inr (hub i h)) fun h => .inr (by omega))).trans hcs (fun _ h => .inl (.inr h)))
        clear f0 f1 hx6 hcs
        go_simp
        clear q8 y8 hc8 hw6 hch HXR HOW HR0
        generalize w6.setCell ⟨x, 8, none⟩ (.slice x2 m2 c2) = w7 at *
        go_wp2_with fail
        go_roundw
        case rel =>
          refine ⟨k + 1, acc ++ [tp], q6, .slice x2 m2 c2, by omega, ?_, by rw [List.length_append, hlen2]; rfl, HD6.out, HR7.out, HO7.out, hv2, HX7.out, HC7.out⟩
          rw [show ((m - (k + 1) : Nat) : Int) = ((m - k : Nat) : Int) - 1 by omega]
        case measure => simp [intOf]; omega
      · have hfin : topsL wText m s3 [] = (acc, s1) := by
          rw [HD]
          by_cases hb : s1.2 = true
          · exact topsL_bad hb
          · have : m - k = 0 := by
              by_cases hk2 : k < m
              · exact absurd ⟨hk2, by simpa using hb⟩ hgo
              · omega
            rw [this]; rfl
        rw [hfin] at HAN
        have HR0 := Lib.hid hr
        have HX0 := Lib.hid hxr
        have HOW := Lib.hid hown
        have c1 := hr.b1
        clear hfin HD hown hxr hr hmk hlen2
        have HGO : Hid (¬ (k < m ∧ s1.2 = false)) := hgo
        clear hgo
        by_cases hkm : k < m
        · have hbad : s1.2 = true := by cases h : s1.2 with | true => rfl | false => exact absurd ⟨hkm, h⟩ HGO.out
          rw [hbad] at c1
          have hpos : (0 : Int) < ((m - k : Nat) : Int) := by omega
          clear hbad
          go_wp2_with fail
          go_end0
          refine ⟨rfl, .slice none 0 0, .slice ux un uc, ?_⟩
          rw [HAN.out]
          exact ⟨HR0.out, HX0.out, OwnR.nil _ _, HOW.out, by simp [Value.ownBlock], hub, hch⟩
        · have hpos : ¬ (0 : Int) < ((m - k : Nat) : Int) := by omega
          go_wp2_with fail
          go_end0
          refine ⟨rfl, .slice none 0 0, .slice ux un uc, ?_⟩
          rw [HAN.out]
          exact ⟨HR0.out, HX0.out, OwnR.nil _ _, HOW.out, by simp [Value.ownBlock], hub, hch⟩
  · have h7' : ¬ (k : Int) = 7 := by omega
    have HAN : Hid (ansS wText k (ar0 k c e) s = (ar0 k c e, s)) := by unfold Hid ansS; rw [if_neg h1, if_neg h2, if_neg h3, if_neg h4, if_neg h7]
    clear h1 h2 h3 h4 h7
    go_wp2_with fail
    go_end0
    refine ⟨rfl, .slice none 0 0, .slice none 0 0, ?_⟩
    rw [HAN.out]
    exact ⟨HR.out, HX.out, OwnR.nil _ _, OwnT.nil _ _, by simp [Value.ownBlock], by simp [Value.ownBlock], Chg.refl _ _⟩
end Go.Proofs.YtmklicodfiggnaaDoor
