/-
  The walk of the document's Told2.
-/
import Derived.Test.YtmklicodfiggnaaDoorToldW
import Derived.Test.YtmklicodfiggnaaDoorRefAskedW
import Derived.Test.YtmklicodfiggnaaDoorRefTellW
import Derived.Outline
import Derived.Deep.DeepCutAuto
import Derived.Deep.CutBlock
set_option linter.unusedSimpArgs false
namespace Go.Proofs.YtmklicodfiggnaaDoor
open Go.RowKit

set_option maxHeartbeats 4000000 in
set_option maxRecDepth 100000 in
theorem mtold_any (a : Option Addr) (l : List UInt8) (cap : Nat) (w : World) (hcap : l.length ≤ cap) (hl : cap ≤ maxLen) (hb : BytesAt w a l) :
    Calls Tryd.prog 17 #[.slice a l.length cap] w (ToldPost (fun k => .int .i64 (k : Nat)) (parseA tkText (bodyQ l)).1 (refToldErr l) w l) := by
  have HBW : Hid (∀ y, a = some y → 0 < l.length → y.block < w.heap.size) := by
    intro y hy h0
    obtain ⟨b, off, rfl, hc⟩ := hb 0 h0
    cases hy
    exact World.block_lt_of_cell? _ _ hc
  have hal0 := (Chg.refl Nil w).alloc (.cells #[.int .i64 0, .int .i64 0, .int .i64 0, .int .i64 0, .int .i64 0, .int .i64 0, .bool false, .slice none 0 0, .slice none 0 0] 37)
  have hz0 := Box.new w [.int .i64 0, .int .i64 0, .int .i64 0, .int .i64 0, .int .i64 0, .int .i64 0, .bool false, .slice none 0 0, .slice none 0 0] 37
  have hb0 := hal0.bytesAt hb (fun _ _ h => h)
  have HSZ := Lib.hid (whole_fit a l cap _ (Nat.le_trans hcap hl) hb0)
  have HB0 := Lib.hid hb0
  clear hb hb0
  go_enter Tryd.func17, Tryd.ntmps17
  go_wp2_with fail
  refine HSZ.out.mono ?_
  rintro e w1 ⟨hc1, hpost⟩
  have hch1 := hal0.trans hc1 (fun _ h => h.elim)
  have hz1 := hz0.chg hc1 (fun h => h)
  have hb1 := hc1.bytesAt HB0.out (fun _ _ h => h)
  have HB1 := Lib.hid hb1
  clear HSZ hz0 hal0 HB0 hb1 hc1
  rcases hpost with ⟨hne, rfl⟩ | ⟨h0, rfl⟩
  · have HE := Lib.hid (reftold_size hne)
    have HNE := Lib.hid hne
    clear hne
    generalize sizeErr l = er at *
    have hne1 : ¬ er = 0 := HNE.out
    have hne2 : ¬ (er : Int) = 0 := by omega
    have z0 := hz1.cell (j := 0) rfl
    have y0 := hz1.free 0
    have z1 := hz1.cell (j := 1) rfl
    have y1 := hz1.free 1
    have z2 := hz1.cell (j := 2) rfl
    have y2 := hz1.free 2
    have z3 := hz1.cell (j := 3) rfl
    have y3 := hz1.free 3
    have z4 := hz1.cell (j := 4) rfl
    have y4 := hz1.free 4
    have z5 := hz1.cell (j := 5) rfl
    have y5 := hz1.free 5
    have z6 := hz1.cell (j := 6) rfl
    have y6 := hz1.free 6
    have z7 := hz1.cell (j := 7) rfl
    have y7 := hz1.free 7
    have z8 := hz1.cell (j := 8) rfl
    have y8 := hz1.free 8
    go_wp2_with fail
    refine bodyPost_ret (v := .tuple #[.agg #[.int .i64 0, .int .i64 0, .int .i64 0, .int .i64 0, .int .i64 0, .int .i64 0, .bool false, .slice none 0 0, .slice none 0 0], .int .i64 0, .int .i64 (er : Nat)]) (by simp [results, Tryd.results17, go_sem, z0, z1, z2, z3, z4, z5, z6, z7, z8]) rfl ⟨?_, .inl ⟨by rw [HE.out]; exact HNE.out, by rw [HE.out]⟩⟩
    iterate 9 (refine Chg.setCell ?_ (.inr (Nat.le_refl _)) _)
    exact hch1
  · have HIN := Lib.hid (reftold_in h0)
    have HBL := Lib.hid (bodyQ_len h0)
    obtain ⟨g1, g2, g3, g4⟩ := sizeErr_good h0
    have HN := Lib.hid (show ((fromB l + 4 : Nat) : Int) = ((fromB l + 4 : Nat) : Int) from rfl)
    have HBB : Hid (bodyQ l = (l.take (fromB l + 4)).drop 4) := rfl
    clear h0
    have HP0 : ∀ F, F = parseA tkText (bodyQ l) → ∀ e w', (Chg Nil w w' ∧ ((refToldErr l ≠ 0 ∧ e = .returned (.tuple #[.agg #[.int .i64 0, .int .i64 0, .int .i64 0, .int .i64 0, .int .i64 0, .int .i64 0, .bool false, .slice none 0 0, .slice none 0 0], .int .i64 0, .int .i64 (refToldErr l : Nat)])) ∨
    (refToldErr l = 0 ∧ ∃ v u, e = .returned (.tuple #[.agg (arCells F.1 v u).toArray, .int .i64 ((fromB l + 4 : Nat) : Int), .int .i64 ((0 : Nat) : Int)]) ∧ OwnR 99 w' v F.1.recs ∧ OwnT 74 w' u F.1.tops ∧ (∀ k, v.ownBlock = some k → w.heap.size ≤ k) ∧ ∀ k, u.ownBlock = some k → w.heap.size ≤ k))) → ToldPost (fun k => .int .i64 (k : Nat)) (parseA tkText (bodyQ l)).1 (refToldErr l) w l e w' := fun F hF e w' h => by rw [hF] at h; exact h
    generalize hn : fromB l + 4 = n at *
    have hbn : (bodyQ l).length = n - 4 := by rw [HBL.out]; omega
    have hn4 : 4 < n := by omega
    have hnl : n ≤ l.length := by omega
    have hn10 : n ≤ 10004 := by omega
    clear hn g2 g3 g4 HBL HN
    obtain ⟨b, off, rfl⟩ := HB1.out.some (by omega)
    unfold maxLen at hl
    have hc4 : ¬ cap = 4 := by omega
    have hnc : n ≤ cap := by omega
    have h4n : (4 : Int) ≤ n := by omega
    have hby : BytesAt w1 (some ⟨b, off + 4, none⟩) (bodyQ l) := by rw [HBB.out]; exact (HB1.out.take n).drop 4
    have hbk : b < w1.heap.size := by
      obtain ⟨b', off', hbb, hcc⟩ := hby 0 (by omega)
      cases hbb
      exact World.block_lt_of_cell? _ _ hcc
    go_upto_region 5 with fail
    have hgb := Box.new w1 [.slice (some ⟨b, off + 4, none⟩) (n - 4) (cap - 4), .bool false] 80
    have hga := (Chg.refl Nil w1).alloc (.cells #[.slice (some ⟨b, off + 4, none⟩) (n - 4) (cap - 4), .bool false] 80)
    have hrd : RdS (w1.alloc (.cells #[.slice (some ⟨b, off + 4, none⟩) (n - 4) (cap - 4), .bool false] 80)) w1.heap.size b (bodyQ l, false) := ⟨off + 4, cap - 4, by omega, by rw [hbn]; omega, by unfold maxLen; omega, by rw [hbn]; exact hgb.cell (j := 0) rfl, hgb.cell (j := 1) rfl, hgb.free 0, hgb.free 1, hga.bytesAt hby (fun _ _ h => h)⟩
    have hz2 := hz1.chg hga (fun h => h)
    have hch2 := hch1.trans hga (fun _ h => .inl h)
    have hzg : w.heap.size < w1.heap.size := (Array.getElem?_eq_some_iff.1 hz1).1
    have hbw := HBW.out _ rfl (by omega)
    simp only at hbw
    have hgw : w1.heap.size < (w1.alloc (.cells #[.slice (some ⟨b, off + 4, none⟩) (n - 4) (cap - 4), .bool false] 80)).heap.size := by simp
    have HRD := Lib.hid hrd
    have hbT : BytesAt w1 (some ⟨b, off, none⟩) (l.take n) := HB1.out.take n
    have HBT := Lib.hid (hga.bytesAt hbT (fun _ _ h => h))
    have hlt8 : (l.take n).length = n := by rw [List.length_take]; omega
    have hbl : (bodyQ l).length ≤ 10000 := by rw [hbn]; omega
    clear hgb hga hrd hby hz1 hch1 HB1 hbk HBB hbn hbT
    go_wp2_with fail
    generalize (w1.alloc (.cells #[.slice (some ⟨b, off + 4, none⟩) (n - 4) (cap - 4), .bool false] 80)) = w2 at *
    generalize w1.heap.size = g at *
    generalize l.take n = T at *
    have hc2 := HBT
    refine (tnum_st g b (bodyQ l, false) w2 HRD.out).mono ?_
    rintro e w3 ⟨rfl, hc3, hr3⟩
    have HCH : Hid (parseA tkText (bodyQ l) = if (numS (numS (numS (bodyQ l, false)).2).2).1 = 0 then ansS tkText (numS (bodyQ l, false)).1 (ar0 (numS (bodyQ l, false)).1 (numS (numS (bodyQ l, false)).2).1 (numS (numS (numS (bodyQ l, false)).2).2).1) (numS (numS (numS (bodyQ l, false)).2).2).2 else (ar0 (numS (bodyQ l, false)).1 (numS (numS (bodyQ l, false)).2).1 (numS (numS (numS (bodyQ l, false)).2).2).1, (numS (numS (numS (bodyQ l, false)).2).2).2)) := rfl
    have HLE := Lib.hid (parseA_le (bodyQ l))
    obtain ⟨F, hF⟩ : ∃ F, F = parseA tkText (bodyQ l) := ⟨_, rfl⟩
    have HP := HP0 F hF
    rw [← hF] at HIN HCH HLE
    clear hF HP0
    generalize (numS (bodyQ l, false)).2 = s1 at *
    generalize (numS (bodyQ l, false)).1 = k at *
    have HR3 := Lib.hid hr3
    clear HRD hr3
    go_wp2_with fail
    refine (tnum_st g b s1 w3 HR3.out).mono ?_
    rintro en w3b ⟨rfl, hc3b, hr3b⟩
    generalize (numS s1).2 = s1b at *
    generalize (numS s1).1 = c at *
    have HR3b := Lib.hid hr3b
    clear hr3b
    go_wp2_with fail
    refine (tnum_st g b s1b w3b HR3b.out).mono ?_
    rintro en w4 ⟨rfl, hc4, hr4⟩
    generalize (numS s1b).2 = s2 at *
    generalize (numS s1b).1 = e at *
    have HR4 := Lib.hid hr4
    clear hr4
    go_upto_region 6 with fail
    have hxb := Box.new w4 [.int .i64 (k : Nat), .int .i64 (c : Nat), .int .i64 (e : Nat), .int .i64 0, .int .i64 0, .int .i64 0, .bool false, .slice none 0 0, .slice none 0 0] 37
    have hxa := (Chg.refl Nil w4).alloc (.cells #[.int .i64 (k : Nat), .int .i64 (c : Nat), .int .i64 (e : Nat), .int .i64 0, .int .i64 0, .int .i64 0, .bool false, .slice none 0 0, .slice none 0 0] 37)
    have hz4 := (((hz2.chg hc3 (by omega)).chg hc3b (by omega)).chg hc4 (by omega)).chg hxa (fun h => h)
    have hch4 := (((hch2.trans hc3 (fun i hi => .inr (by omega))).trans hc3b (fun i hi => .inr (by omega))).trans hc4 (fun i hi => .inr (by omega))).trans hxa (fun _ h => .inl h)
    have HR5 := Lib.hid (Rg.mk (HR4.out.chg hxa (fun h => h) (fun h => h)) hxb hz4 hch4)
    have hgx : g < w4.heap.size := by have := hc3.size; have := hc3b.size; have := hc4.size; omega
    have HBT5 := Lib.hid (hxa.bytesAt (hc4.bytesAt (hc3b.bytesAt (hc3.bytesAt HBT.out (fun y hy => by cases hy; simp only; omega)) (fun y hy => by cases hy; simp only; omega)) (fun y hy => by cases hy; simp only; omega)) (fun _ _ h => h))
    clear hc2 HBT
    clear hxb hxa hz4 hch4 hz2 hch2 hc3 hc3b hc4 HR3 HR3b HR4 hgw
    generalize (w4.alloc (.cells #[.int .i64 (k : Nat), .int .i64 (c : Nat), .int .i64 (e : Nat), .int .i64 0, .int .i64 0, .int .i64 0, .bool false, .slice none 0 0, .slice none 0 0] 37)) = w5 at *
    generalize w4.heap.size = x at *
    have q0 := HR5.out.bx.cell (j := 0) rfl
    have q2 := HR5.out.bx.cell (j := 2) rfl
    have HC6 : Hid (Chg (fun i => i = g ∨ i = x) w5 w5) := Chg.refl _ _
    have hxlt := HR5.out.lt
    have hbw5 : b < w5.heap.size := by omega
    go_upto_if 36 with fail
    go_cut [8] (fun u8 wx => u8 = .pointer (some ⟨x, 0, none⟩) ∧ ∃ v u, Rg 37 [.int .i64 0, .int .i64 0, .int .i64 0, .int .i64 0, .int .i64 0, .int .i64 0, .bool false, .slice none 0 0, .slice none 0 0] w g b x (arCells F.1 v u) F.2 wx ∧ OwnR 99 wx v F.1.recs ∧ OwnT 74 wx u F.1.tops ∧ (∀ i, v.ownBlock = some i → x < i) ∧ (∀ i, u.ownBlock = some i → x < i) ∧ Chg (fun i => i = g ∨ i = x) w5 wx)
    case first =>
      by_cases he : e = 0
      · subst he
        clear q2
        go_upto_region 8 with fail
        by_cases h1 : k = 1
        · subst h1
          have HF : Hid (F = ansS tkText 1 (ar0 1 c 0) s2) := by unfold Hid; rw [HCH.out]; rfl
          clear q0 HCH
          go_wp2_with fail
          refine (tnum_st g b s2 _ HR5.out.rd).mono ?_
          rintro e wq0 ⟨rfl, hc0, hr0⟩
          have HD0 := Lib.hid (HC6.out.trans hc0 (fun i hi => .inl (.inl hi)))
          have HQ0 := Lib.hid (HR5.out.go hzg hgx hc0 hr0)
          clear hc0 hr0
          have q3 := HQ0.out.bx.cell (j := 3) rfl
          have y3 := HQ0.out.bx.free 3
          go_wp2_with fail
          go_meet
          case rel => exact ⟨rfl, .slice none 0 0, .slice none 0 0, by rw [HF.out]; exact (HQ0.out.set hzg hgx hbw 3 (.int .i64 ((numS s2).1 : Nat))), by rw [HF.out]; exact OwnR.nil _ _, by rw [HF.out]; exact OwnT.nil _ _, by simp [Value.ownBlock], by simp [Value.ownBlock], (HD0.out.setCell (p := ⟨x, 3, none⟩) (.inl (.inr rfl)) (.int .i64 ((numS s2).1 : Nat)))⟩
        · have h1' : ¬ (k : Int) = 1 := by omega
          by_cases h2 : k = 2
          · subst h2
            have HF : Hid (F = ansS tkText 2 (ar0 2 c 0) s2) := by unfold Hid; rw [HCH.out]; rfl
            clear q0 HCH
            go_wp2_with fail
            refine (tnum_st g b s2 _ HR5.out.rd).mono ?_
            rintro e wq0 ⟨rfl, hc0, hr0⟩
            have HD0 := Lib.hid (HC6.out.trans hc0 (fun i hi => .inl (.inl hi)))
            have HQ0 := Lib.hid (HR5.out.go hzg hgx hc0 hr0)
            clear hc0 hr0
            have q4 := HQ0.out.bx.cell (j := 4) rfl
            have y4 := HQ0.out.bx.free 4
            go_wp2_with fail
            have HE1 := Lib.hid ((HD0.out.setCell (p := ⟨x, 4, none⟩) (.inl (.inr rfl)) (.int .i64 ((numS s2).1 : Nat))))
            have HS1 := Lib.hid (HQ0.out.set hzg hgx hbw 4 (.int .i64 ((numS s2).1 : Nat)))
            clear q4 y4
            generalize (wq0.setCell ⟨x, 4, none⟩ (.int .i64 ((numS s2).1 : Nat))) = ws1 at *
            refine (tnum_st g b (numS s2).2 ws1 HS1.out.rd).mono ?_
            rintro e wq1 ⟨rfl, hc1, hr1⟩
            have HD1 := Lib.hid (HE1.out.trans hc1 (fun i hi => .inl (.inl hi)))
            have HQ1 := Lib.hid (HS1.out.go hzg hgx hc1 hr1)
            clear hc1 hr1
            have q5 := HQ1.out.bx.cell (j := 5) rfl
            have y5 := HQ1.out.bx.free 5
            go_wp2_with fail
            have HE2 := Lib.hid ((HD1.out.setCell (p := ⟨x, 5, none⟩) (.inl (.inr rfl)) (.int .i64 ((numS (numS s2).2).1 : Nat))))
            have HS2 := Lib.hid (HQ1.out.set hzg hgx hbw 5 (.int .i64 ((numS (numS s2).2).1 : Nat)))
            clear q5 y5
            generalize (wq1.setCell ⟨x, 5, none⟩ (.int .i64 ((numS (numS s2).2).1 : Nat))) = ws2 at *
            refine (trecs_st true g b (numS (numS s2).2).2 ws2 (by have := HS2.out.lt; omega) HS2.out.rd).mono ?_
            rintro e wq2 ⟨v, rfl, hc2, hr2, hown, hfr⟩
            obtain ⟨vx, vn, vc, rfl⟩ := ownsRow_form hown
            have hfx : ∀ i, (Value.slice vx vn vc).ownBlock = some i → w.heap.size ≤ i ∧ x < i ∧ g < i := fun i hi => by have := hfr i hi; have := HS2.out.lt; omega
            have HOW := Lib.hid hown
            clear hown hfr
            have HD2 := Lib.hid (HE2.out.trans hc2 (fun i hi => .inl (.inl hi)))
            have HQ2 := Lib.hid (HS2.out.go hzg hgx hc2 hr2)
            clear hc2 hr2
            have q7 := HQ2.out.bx.cell (j := 7) rfl
            have y7 := HQ2.out.bx.free 7
            go_wp2_with fail
            go_meet
            case rel => exact ⟨rfl, .slice vx vn vc, .slice none 0 0, by rw [HF.out]; exact (HQ2.out.set hzg hgx hbw 7 (.slice vx vn vc)), by rw [HF.out]; exact ownsRow_chg HOW.out ((Chg.refl (fun k => k = x) _).setCell (.inl rfl) _) (fun i hi e => by have := hfx i hi; omega), by rw [HF.out]; exact OwnT.nil _ _, fun i hi => (hfx i hi).2.1, by simp [Value.ownBlock], (HD2.out.setCell (p := ⟨x, 7, none⟩) (.inl (.inr rfl)) (.slice vx vn vc))⟩
          · have h2' : ¬ (k : Int) = 2 := by omega
            by_cases h3 : k = 3
            · subst h3
              have HF : Hid (F = ansS tkText 3 (ar0 3 c 0) s2) := by unfold Hid; rw [HCH.out]; rfl
              clear q0 HCH
              go_wp2_with fail
              refine (ttruth_st g b s2 _ HR5.out.rd).mono ?_
              rintro e wq0 ⟨rfl, hc0, hr0⟩
              have HD0 := Lib.hid (HC6.out.trans hc0 (fun i hi => .inl (.inl hi)))
              have HQ0 := Lib.hid (HR5.out.go hzg hgx hc0 hr0)
              clear hc0 hr0
              have HF3 : Hid (F = ({ ar0 3 c 0 with found := (truthS s2).1, offset := (offF (truthS s2).1 (truthS s2).2).1 }, (offF (truthS s2).1 (truthS s2).2).2)) := HF.out
              clear HF
              generalize (truthS s2).1 = fd at *
              generalize (truthS s2).2 = s6 at *
              have q6 := HQ0.out.bx.cell (j := 6) rfl
              have y6 := HQ0.out.bx.free 6
              go_upto_region 16 with fail
              have HE1 := Lib.hid (HD0.out.setCell (p := ⟨x, 6, none⟩) (.inl (.inr rfl)) (.bool fd))
              have HS1 := Lib.hid (HQ0.out.set hzg hgx hbw 6 (.bool fd))
              clear q6 y6
              generalize wq0.setCell ⟨x, 6, none⟩ (.bool fd) = ws1 at *
              have q6 := HS1.out.bx.cell (j := 6) rfl
              cases fd
              · go_wp2_with fail
                go_meet
                case rel => exact ⟨rfl, .slice none 0 0, .slice none 0 0, by rw [HF3.out]; exact HS1.out, by rw [HF3.out]; exact OwnR.nil _ _, by rw [HF3.out]; exact OwnT.nil _ _, by simp [Value.ownBlock], by simp [Value.ownBlock], HE1.out⟩
              · go_wp2_with fail
                refine (tnum_st g b s6 _ HS1.out.rd).mono ?_
                rintro en wq1 ⟨rfl, hc1, hr1⟩
                have HD1 := Lib.hid (HE1.out.trans hc1 (fun i hi => .inl (.inl hi)))
                have HQ1 := Lib.hid (HS1.out.go hzg hgx hc1 hr1)
                clear hc1 hr1 q6
                have q3 := HQ1.out.bx.cell (j := 3) rfl
                have y3 := HQ1.out.bx.free 3
                go_wp2_with fail
                go_meet
                case rel => exact ⟨rfl, .slice none 0 0, .slice none 0 0, by rw [HF3.out]; exact HQ1.out.set hzg hgx hbw 3 _, by rw [HF3.out]; exact OwnR.nil _ _, by rw [HF3.out]; exact OwnT.nil _ _, by simp [Value.ownBlock], by simp [Value.ownBlock], HD1.out.setCell (p := ⟨x, 3, none⟩) (.inl (.inr rfl)) _⟩
            · have h3' : ¬ (k : Int) = 3 := by omega
              by_cases h4 : k = 4
              · subst h4
                have HF : Hid (F = ansS tkText 4 (ar0 4 c 0) s2) := by unfold Hid; rw [HCH.out]; rfl
                clear q0 HCH
                go_wp2_with fail
                refine (tnum_st g b s2 _ HR5.out.rd).mono ?_
                rintro e wq0 ⟨rfl, hc0, hr0⟩
                have HD0 := Lib.hid (HC6.out.trans hc0 (fun i hi => .inl (.inl hi)))
                have HQ0 := Lib.hid (HR5.out.go hzg hgx hc0 hr0)
                clear hc0 hr0
                have q4 := HQ0.out.bx.cell (j := 4) rfl
                have y4 := HQ0.out.bx.free 4
                go_wp2_with fail
                go_meet
                case rel => exact ⟨rfl, .slice none 0 0, .slice none 0 0, by rw [HF.out]; exact (HQ0.out.set hzg hgx hbw 4 (.int .i64 ((numS s2).1 : Nat))), by rw [HF.out]; exact OwnR.nil _ _, by rw [HF.out]; exact OwnT.nil _ _, by simp [Value.ownBlock], by simp [Value.ownBlock], (HD0.out.setCell (p := ⟨x, 4, none⟩) (.inl (.inr rfl)) (.int .i64 ((numS s2).1 : Nat)))⟩
              · have h4' : ¬ (k : Int) = 4 := by omega
                by_cases h7 : k = 7
                · subst h7
                  have HF : Hid (F = ansS tkText 7 (ar0 7 c 0) s2) := by unfold Hid; rw [HCH.out]; rfl
                  clear q0 HCH
                  go_wp2_with fail
                  refine (tnum_st g b s2 _ HR5.out.rd).mono ?_
                  rintro en wz ⟨rfl, hcz, hrz⟩
                  have HAN : Hid (F = ({ ar0 7 c 0 with tops := (topsL tkText (numS s2).1 (numS s2).2 []).1 }, (topsL tkText (numS s2).1 (numS s2).2 []).2)) := HF.out
                  have hn := numS_le s2
                  generalize (numS s2).1 = m at *
                  generalize (numS s2).2 = s3 at *
                  have hRz := HR5.out.go hzg hgx hcz hrz
                  have hcz' := hcz.weak (S' := fun i => i = g ∨ i = x) (fun _ h => .inl (.inl h))
                  clear HF hcz hrz
                  go_wp2_with fail
                  go_loopw [9] (fun i wr => ∃ (k : Nat) (acc : List Tp) (s1 : St) (u : Value), k ≤ m ∧ i = .int .i64 ((m - k : Nat) : Int) ∧ acc.length = k ∧ topsL tkText m s3 [] = topsL tkText (m - k) s1 acc ∧
                    OwnT 74 wr u acc ∧ (∀ i, u.ownBlock = some i → x < i ∧ w5.heap.size ≤ i) ∧ Rg 37 [.int .i64 0, .int .i64 0, .int .i64 0, .int .i64 0, .int .i64 0, .int .i64 0, .bool false, .slice none 0 0, .slice none 0 0] w g b x (arCells (ar0 7 c 0) (.slice none 0 0) u) s1 wr ∧ Chg (fun i => i = g ∨ i = x) w5 wr) (fun i _ => (intOf i).toNat)
                  case atStart => exact ⟨0, [], s3, .slice none 0 0, Nat.zero_le _, rfl, rfl, rfl, OwnT.nil _ _, by simp [Value.ownBlock], hRz, hcz'⟩
                  case round =>
                    obtain ⟨k, acc, s1, u, hk, rfl, hlen2, HD, hown, hub, hRr, hch⟩ := hrel
                    clear hcz' hRz
                    have hmk : ((m - k : Nat) : Int) = (m : Int) - k := by omega
                    obtain ⟨ux, un, uc, rfl⟩ := ownsRow_form hown
                    by_cases hgo : k < m ∧ s1.2 = false
                    · obtain ⟨hkm, hb0⟩ := hgo
                      have c1 := hRr.rd.b1
                      rw [hb0] at c1
                      have hpos : (0 : Int) < ((m - k : Nat) : Int) := by omega
                      have HOW := Lib.hid hown
                      have HDD := Lib.hid HD
                      have HRr := Lib.hid hRr
                      have HCH0 := Lib.hid hch
                      have hxr := hRr.lt
                      have hul : ∀ i, (Value.slice ux un uc).ownBlock = some i → i < wr.heap.size := fun i hi => ownsRow_lt hown i hi
                      clear hown HD hRr hmk hch
                      go_wp2_with fail
                      clear c1 hpos
                      refine (ttext_st 40 g b s1 _ HRr.out.rd).mono ?_
                      rintro en wa ⟨rfl, hca, hra⟩
                      have HRa := Lib.hid (HRr.out.go hzg hgx hca hra)
                      have HCa := Lib.hid (HCH0.out.trans hca (fun i hi => .inl (.inl hi)))
                      have HOa := Lib.hid (ownsRow_chg HOW.out hca (fun i hi e => by have := (hub i hi).1; omega))
                      have hsa := hca.size
                      have HND : Hid (tpS tkText s1 = ({ name := ⟨(tkText 40 s1).1.toArray⟩, parts := (numS (tkText 40 s1).2).1, compact := (truthS (numS (tkText 40 s1).2).2).1 }, (truthS (numS (tkText 40 s1).2).2).2)) := rfl
                      generalize (tkText 40 s1).1 = nm at *
                      generalize (tkText 40 s1).2 = sa at *
                      clear hca hra HRr HCH0 HOW
                      go_upto_region 25 with fail
                      have hyw5 : w5.heap.size ≤ wa.heap.size := HCa.out.size
                      have hyb := Box.new wa [.string ⟨nm.toArray⟩, .int .i64 0, .bool false] 74
                      have hya := (Chg.refl Nil wa).alloc (.cells #[.string ⟨nm.toArray⟩, .int .i64 0, .bool false] 74)
                      have HRb := Lib.hid (⟨HRa.out.rd.chg hya (fun h => h) (fun h => h), HRa.out.bx.chg hya (fun h => h), HRa.out.bz.chg hya (fun h => h), HRa.out.ch.trans hya (fun _ h => .inl h)⟩ : Rg 37 [.int .i64 0, .int .i64 0, .int .i64 0, .int .i64 0, .int .i64 0, .int .i64 0, .bool false, .slice none 0 0, .slice none 0 0] w g b x _ sa _)
                      have HCb := Lib.hid (HCa.out.trans hya (fun _ h => .inl (h.elim)))
                      have HOb := Lib.hid (ownsRow_chg HOa.out hya (fun _ _ h => h))
                      clear hya HRa HCa HOa
                      generalize (wa.alloc (.cells #[.string ⟨nm.toArray⟩, .int .i64 0, .bool false] 74)) = wb at *
                      have hyx : x < wa.heap.size := by omega
                      have hyg : g < wa.heap.size := by omega
                      have hyu : ∀ i, (Value.slice ux un uc).ownBlock = some i → i < wa.heap.size := fun i hi => by have := hul i hi; omega
                      generalize wa.heap.size = y at *
                      have HYB := Lib.hid hyb
                      clear hyb
                      go_wp2_with fail
                      refine (tnum_st g b sa _ HRb.out.rd).mono ?_
                      rintro en wd ⟨rfl, hcd, hrd⟩
                      have HRd := Lib.hid (HRb.out.go hzg hgx hcd hrd)
                      have HCd := Lib.hid (HCb.out.trans hcd (fun i hi => .inl (.inl hi)))
                      have HOd := Lib.hid (ownsRow_chg HOb.out hcd (fun i hi e => by have := (hub i hi).1; omega))
                      have hyd := HYB.out.chg hcd (by omega)
                      generalize (numS sa).1 = pt at *
                      generalize (numS sa).2 = sd at *
                      clear hcd hrd HRb HCb HOb HYB
                      have q1 := hyd.cell (j := 1) rfl
                      have y1 := hyd.free 1
                      go_upto_region 26 with fail
                      have hst : Chg (fun i => i = y) wd (wd.setCell ⟨y, 1, none⟩ (.int .i64 (pt : Nat))) := (Chg.refl (fun i => i = y) wd).setCell (.inl rfl) _
                      have HYe := Lib.hid (hyd.set 1 (.int .i64 (pt : Nat)))
                      have HRe := Lib.hid (⟨HRd.out.rd.chg hst (by omega) (by omega), HRd.out.bx.chg hst (by omega), HRd.out.bz.chg hst (by omega), HRd.out.ch.trans hst (fun i hi => .inr (by omega))⟩ : Rg 37 [.int .i64 0, .int .i64 0, .int .i64 0, .int .i64 0, .int .i64 0, .int .i64 0, .bool false, .slice none 0 0, .slice none 0 0] w g b x _ sd _)
                      have HCe := Lib.hid (HCd.out.trans hst (fun i hi => .inr (by omega)))
                      have HOe := Lib.hid (ownsRow_chg HOd.out hst (fun i hi e => by have := hyu i hi; omega))
                      clear q1 y1 hst hyd HRd HCd HOd
                      generalize wd.setCell ⟨y, 1, none⟩ (.int .i64 (pt : Nat)) = we at *
                      go_wp2_with fail
                      refine (ttruth_st g b sd _ HRe.out.rd).mono ?_
                      rintro en wf ⟨rfl, hcf, hrf⟩
                      have HRf := Lib.hid (HRe.out.go hzg hgx hcf hrf)
                      have HCf := Lib.hid (HCe.out.trans hcf (fun i hi => .inl (.inl hi)))
                      have HOf := Lib.hid (ownsRow_chg HOe.out hcf (fun i hi e => by have := (hub i hi).1; omega))
                      have hyf := HYe.out.chg hcf (by omega)
                      generalize (truthS sd).1 = cp at *
                      generalize (truthS sd).2 = sf at *
                      clear hcf hrf HRe HCe HOe HYe
                      have q2 := hyf.cell (j := 2) rfl
                      have y2 := hyf.free 2
                      go_upto_region 27 with fail
                      have hst : Chg (fun i => i = y) wf (wf.setCell ⟨y, 2, none⟩ (.bool cp)) := (Chg.refl (fun i => i = y) wf).setCell (.inl rfl) _
                      have hyh := hyf.set 2 (.bool cp)
                      have HRh := Lib.hid (⟨HRf.out.rd.chg hst (by omega) (by omega), HRf.out.bx.chg hst (by omega), HRf.out.bz.chg hst (by omega), HRf.out.ch.trans hst (fun i hi => .inr (by omega))⟩ : Rg 37 [.int .i64 0, .int .i64 0, .int .i64 0, .int .i64 0, .int .i64 0, .int .i64 0, .bool false, .slice none 0 0, .slice none 0 0] w g b x _ sf _)
                      have HCh := Lib.hid (HCf.out.trans hst (fun i hi => .inr (by omega)))
                      have HOh := Lib.hid (ownsRow_chg HOf.out hst (fun i hi e => by have := hyu i hi; omega))
                      clear q2 y2 hst hyf HRf HCf HOf
                      generalize wf.setCell ⟨y, 2, none⟩ (.bool cp) = wh at *
                      have p0 := hyh.cell (j := 0) rfl
                      have p1 := hyh.cell (j := 1) rfl
                      have p2 := hyh.cell (j := 2) rfl
                      have HTP : Hid (tpS tkText s1 = (⟨⟨nm.toArray⟩, pt, cp⟩, sf)) := HND.out
                      have q8 := HRh.out.bx.cell (j := 8) rfl
                      have y8 := HRh.out.bx.free 8
                      have h63 : acc.length + 1 ≤ maxLen := by unfold maxLen; omega
                      have hby : (acc.length + 1) * 32 ≤ 140737488355328 := by omega
                      have HB1 := Lib.hid (Box.new wh (Tp.cells ⟨⟨nm.toArray⟩, pt, cp⟩) 74)
                      have HH63 := Lib.hid h63
                      have HBY := Lib.hid hby
                      have HL2 := Lib.hid hlen2
                      clear hyh h63 hby hlen2 HND
                      go_wp2_with (at_builtin; go_must (refine wpList_append_grew rfl (.tmp 95) (.tmp 97) 35 35 rfl topsT _ Tryd.underlying35 (by intro _; simp) _ _ _ rfl (HOh.out.alloc _) _ 1 (Tp.cells ⟨⟨nm.toArray⟩, pt, cp⟩) rfl (Source.box HB1.out rfl (Tp.cells_one _)) HH63.out HBY.out ?_); intro v2 w2 hown2 hg2 _; obtain ⟨x2, n2, c2, rfl⟩ := ownsRow_form hown2; have hxw := (HRh.out.bx.chg ((Chg.refl Nil wh).alloc (.cells (Tp.cells ⟨⟨nm.toArray⟩, pt, cp⟩).toArray 74)) (fun h => h)).chg hg2.chg (fun h => by have := (hub _ h).1; omega); have hx8 := hxw.cell (j := 8) rfl; have hxf := hxw.free 8; have HXW := Lib.hid hxw; clear hxw q8 y8)
                      go_wp2
                      go_roundw
                      case rel =>
                        have hsz2 := hg2.chg.size
                        have hchA := (Chg.refl Nil wh).alloc (.cells (Tp.cells ⟨⟨nm.toArray⟩, pt, cp⟩).toArray 74)
                        have hv2 : ∀ i, (Value.slice x2 n2 c2).ownBlock = some i → x < i ∧ w5.heap.size ≤ i := by
                          intro i hi
                          rcases hg2.own i hi with h | h
                          · exact hub i h
                          · simp at h; have := HRh.out.lt; have := HCh.out.size; omega
                        have hset : Chg (fun i => i = x) w2 (w2.setCell ⟨x, 8, none⟩ (.slice x2 n2 c2)) := (Chg.refl (fun i => i = x) _).setCell (.inl rfl) _
                        have hup : Chg (Own (.slice ux un uc)) wh w2 := (hchA.weak (fun _ h => h.elim)).trans hg2.chg (fun i hi => .inl hi)
                        have hng : ∀ i, Own (.slice ux un uc) i → x < i := fun i hi => (hub i hi).1
                        refine ⟨k + 1, acc ++ [⟨⟨nm.toArray⟩, pt, cp⟩], sf, .slice x2 n2 c2, by omega, ?_, by rw [List.length_append, HL2.out]; rfl, ?_, ?_, hv2, ⟨?_, HXW.out.set 8 _, ?_, ?_⟩, ?_⟩
                        · rw [show ((m - (k + 1) : Nat) : Int) = ((m - k : Nat) : Int) - 1 by omega]
                        · rw [HDD.out, show m - k = m - (k + 1) + 1 by omega, topsL_on hb0, HTP.out]
                        · have h := ownsRow_chg hown2 hset (fun i hi e => by have := (hv2 i hi).1; omega)
                          unfold OwnT
                          rw [List.length_append, List.flatMap_append]
                          simpa using h
                        · exact ((HRh.out.rd.chg hup (fun h => by have := hng _ h; omega) (fun h => by have := hng _ h; omega)).chg hset (by omega) (by omega))
                        · exact ((HRh.out.bz.chg hup (fun h => by have := hng _ h; omega)).chg hset (by omega))
                        · exact (HRh.out.ch.trans hup (fun i hi => .inr (by have := hng _ hi; omega))).trans hset (fun i hi => .inr (by omega))
                        · exact (HCh.out.trans hup (fun i hi => .inr (by have := (hub _ hi).2; omega))).trans hset (fun _ h => .inl (.inr h))
                      case measure => simp [intOf]; omega
                    · have hfin : topsL tkText m s3 [] = (acc, s1) := by
                        rw [HD]
                        by_cases hb : s1.2 = true
                        · exact topsL_bad hb
                        · have : m - k = 0 := by
                            by_cases hk2 : k < m
                            · exact absurd ⟨hk2, by simpa using hb⟩ hgo
                            · omega
                          rw [this]; rfl
                      rw [hfin] at HAN
                      have HR0 := Lib.hid hRr
                      have HOW := Lib.hid hown
                      have HCC := Lib.hid hch
                      have c1 := hRr.rd.b1
                      clear hfin HD hown hRr hmk hlen2 hch
                      have HGO : Hid (¬ (k < m ∧ s1.2 = false)) := hgo
                      clear hgo
                      by_cases hkm : k < m
                      · have hbad : s1.2 = true := by cases h : s1.2 with | true => rfl | false => exact absurd ⟨hkm, h⟩ HGO.out
                        rw [hbad] at c1
                        have hpos : (0 : Int) < ((m - k : Nat) : Int) := by omega
                        clear hbad
                        go_wp2_with fail
                        go_meet
                        case rel => exact ⟨rfl, .slice none 0 0, .slice ux un uc, by rw [HAN.out]; exact HR0.out, by rw [HAN.out]; exact OwnR.nil _ _, by rw [HAN.out]; exact HOW.out, by simp [Value.ownBlock], fun i hi => (hub i hi).1, HCC.out⟩
                      · have hpos : ¬ (0 : Int) < ((m - k : Nat) : Int) := by omega
                        go_wp2_with fail
                        go_meet
                        case rel => exact ⟨rfl, .slice none 0 0, .slice ux un uc, by rw [HAN.out]; exact HR0.out, by rw [HAN.out]; exact OwnR.nil _ _, by rw [HAN.out]; exact HOW.out, by simp [Value.ownBlock], fun i hi => (hub i hi).1, HCC.out⟩
                · have h7' : ¬ (k : Int) = 7 := by omega
                  have HF : Hid (F = (ar0 k c 0, s2)) := by unfold Hid; rw [HCH.out]; unfold ansS; rw [if_neg h1, if_neg h2, if_neg h3, if_neg h4, if_neg h7]; rfl
                  clear h1 h2 h3 h4 h7 HCH
                  go_wp2_with fail
                  go_meet
                  case rel => exact ⟨rfl, .slice none 0 0, .slice none 0 0, by rw [HF.out]; exact HR5.out, by rw [HF.out]; exact OwnR.nil _ _, by rw [HF.out]; exact OwnT.nil _ _, by simp [Value.ownBlock], by simp [Value.ownBlock], HC6.out⟩
      · have HF : Hid (F = (ar0 k c e, s2)) := by unfold Hid; rw [HCH.out, if_neg he]
        have he' : ¬ (e : Int) = 0 := by omega
        clear he
        go_wp2_with fail
        go_meet
        case rel => exact ⟨rfl, .slice none 0 0, .slice none 0 0, by rw [HF.out]; exact HR5.out, by rw [HF.out]; exact OwnR.nil _ _, by rw [HF.out]; exact OwnT.nil _ _, by simp [Value.ownBlock], by simp [Value.ownBlock], Chg.refl _ _⟩
    case rest =>
      obtain ⟨rfl, v, u, hR9, hown, hot, hfr, hft, hc9⟩ := hcut
      obtain ⟨vx, vn, vc, rfl⟩ := ownsRow_form hown
      obtain ⟨tx, tn, tc, rfl⟩ := ownsRow_form hot
      clear HCH q0 q2
      obtain ⟨⟨f0, f1, f2, f3, f4, f5, f6, f7, f8⟩, sl, sb⟩ := F
      simp only at HIN hR9 hown hot HP HLE
      obtain ⟨⟨roff, rcap, hrd⟩, hbx, hbz, hch⟩ := hR9
      have HBT9 := Lib.hid (hc9.bytesAt HBT5.out (fun y hy => by cases hy; simp only; omega))
      obtain ⟨va, vcap, hv, hrecs, hvle⟩ := hown.recs
      simp only [Value.slice.injEq] at hv
      obtain ⟨rfl, rfl, rfl⟩ := hv
      obtain ⟨ua, ucap, hu, htops, hule⟩ := hot.tops
      simp only [Value.slice.injEq] at hu
      obtain ⟨rfl, rfl, rfl⟩ := hu
      obtain ⟨le1, le2, le3, le4⟩ := HLE.out
      have HAK := Lib.hid (mtell_any f0 f1 f2 f3 f4 f5 f6 f7 vx vc f8 tx tc wc (by omega) le2 (by omega) le4 hrecs htops)
      have HOW := Lib.hid hown
      have HOT := Lib.hid hot
      have c1 := hrd.c1
      clear hown hot hrecs htops hrd hc9 HBT5 HC6 HLE le1 le2 le3 le4 hvle hule HR5
      have x0 := hbx.cell (j := 0) rfl
      have x1 := hbx.cell (j := 1) rfl
      have x2 := hbx.cell (j := 2) rfl
      have x3 := hbx.cell (j := 3) rfl
      have x4 := hbx.cell (j := 4) rfl
      have x5 := hbx.cell (j := 5) rfl
      have x6 := hbx.cell (j := 6) rfl
      have x7 := hbx.cell (j := 7) rfl
      have x8 := hbx.cell (j := 8) rfl
      go_wp2_with fail
      refine HAK.out.mono ?_
      have HOW0 := HOW
      have HOT0 := HOT
      have hbx0 := hbx
      have hbz0 := hbz
      have hch0 := hch
      have c10 := c1
      have HBT0 := HBT9
      clear HOW HOT hbx hbz hch c1 HBT9
      rintro e w9 ⟨hc9, ⟨hbd, rfl⟩ | ⟨hgd, u, rfl, hou, _⟩⟩
      · have HOW := Lib.hid (ownsRow_chg HOW0.out hc9 (fun _ _ h => h)); have HOT := Lib.hid (ownsRow_chg HOT0.out hc9 (fun _ _ h => h))
        have hbx := hbx0.chg hc9 (fun h => h)
        have hbz := hbz0.chg hc9 (fun h => h)
        have hch := hch0.trans hc9 (fun _ h => h.elim)
        have c1 := hc9.cell c10 (fun h => h)
        have HBT8 := Lib.hid (hc9.bytesAt HBT0.out (fun _ _ h => h))
        clear HOW0 HOT0 hbx0 hbz0 hch0 c10 HBT0 HAK
        have HX : Hid (refToldErr l = 3) := by unfold Hid; rw [HIN.out, if_pos (.inr (.inl hbd))]
        clear HIN
        generalize tellErr ⟨f0, f1, f2, f3, f4, f5, f6, f7, f8⟩ = ce at *
        have hne : ¬ ((ce : Int) = 0) := by omega
        have hne2 : ¬ ce = 0 := hbd
        clear hbd
        cases sb
        · go_upto_region 29 with fail
          refine Ch.wp_region_chain _ (Chg (Nil)) [] (fun _ _ => True) (by kernel_rfl) (fun _ => Chg.refl _ _) (fun _ _ _ h k => h.trans k (fun _ h => .inl h)) [[], [0], [1], [2], [3], [4], [4, 5], [4, 6], [7], [8], [8, 9], [8], [8], [8, 11, 12], [8, 13], [8, 10, 14], [8, 15]] rfl (by kernel_rfl) (by kernel_rfl) (Chg.refl _ _).drew ?_ ?_
          · trivial
          iterate 3 ((with_reducible apply Ch.Walk.eq); (case hd => rfl); (case hi => rfl); case h => (intro w2 hw2 N hN; simp only [Ch.depsOf, List.filterMap_nil, List.filterMap_cons, List.getElem?_toArray, List.getElem?_cons_zero, List.getElem?_cons_succ, Option.bind_some, List.nil_append, List.cons_append, Ch.Ob]; go_simp; (try go_bits); with_reducible exact hN _ (Chg.refl _ _) (fun _ h => h)))
          ((with_reducible apply Ch.Walk.eq); (case hd => rfl); (case hi => rfl); case h => (intro w2 hw2 N hN; (have hc := hw2.cell c1 (fun h => h)); simp only [Ch.depsOf, List.filterMap_nil, List.filterMap_cons, List.getElem?_toArray, List.getElem?_cons_zero, List.getElem?_cons_succ, Option.bind_some, List.nil_append, List.cons_append, Ch.Ob]; go_simp; (try go_bits); with_reducible exact hN _ (Chg.refl _ _) (fun _ h => h)))
          iterate 13 ((with_reducible apply Ch.Walk.eq); (case hd => rfl); (case hi => rfl); case h => (intro w2 hw2 N hN; simp only [Ch.depsOf, List.filterMap_nil, List.filterMap_cons, List.getElem?_toArray, List.getElem?_cons_zero, List.getElem?_cons_succ, Option.bind_some, List.nil_append, List.cons_append, Ch.Ob]; go_simp; (try go_bits); with_reducible exact hN _ (Chg.refl _ _) (fun _ h => h)))
          intro w4 hw4
          simp only [List.nil_append, List.cons_append, Ch.Fin, List.map_cons, List.map_nil, List.getD_cons_zero, List.getD_cons_succ]
          go_simp
          have hz4 := hbz.chg hw4 (fun h => h)
          have hch4 := hch.trans hw4 (fun _ h => .inl h)
          have z0 := hz4.cell (j := 0) rfl
          have y0 := hz4.free 0
          have z1 := hz4.cell (j := 1) rfl
          have y1 := hz4.free 1
          have z2 := hz4.cell (j := 2) rfl
          have y2 := hz4.free 2
          have z3 := hz4.cell (j := 3) rfl
          have y3 := hz4.free 3
          have z4 := hz4.cell (j := 4) rfl
          have y4 := hz4.free 4
          have z5 := hz4.cell (j := 5) rfl
          have y5 := hz4.free 5
          have z6 := hz4.cell (j := 6) rfl
          have y6 := hz4.free 6
          have z7 := hz4.cell (j := 7) rfl
          have y7 := hz4.free 7
          have z8 := hz4.cell (j := 8) rfl
          have y8 := hz4.free 8
          go_wp2_with fail
          refine bodyPost_ret (v := .tuple #[.agg #[.int .i64 0, .int .i64 0, .int .i64 0, .int .i64 0, .int .i64 0, .int .i64 0, .bool false, .slice none 0 0, .slice none 0 0], .int .i64 0, .int .i64 3]) (by simp [results, Tryd.results17, go_sem, z0, z1, z2, z3, z4, z5, z6, z7, z8]) rfl (HP _ _ ⟨?_, .inl ⟨by rw [HX.out]; simp, by rw [HX.out]; rfl⟩⟩)
          iterate 9 (refine Chg.setCell ?_ (.inr (Nat.le_refl _)) _)
          exact hch4
        · go_upto_region 29 with fail
          refine Ch.wp_region_chain _ (Chg (Nil)) [] (fun _ _ => True) (by kernel_rfl) (fun _ => Chg.refl _ _) (fun _ _ _ h k => h.trans k (fun _ h => .inl h)) [[], [0], [1], [2], [3], [4], [4, 5], [4, 6], [7], [8], [8, 9], [8], [8], [8, 11, 12], [8, 13], [8, 10, 14], [8, 15]] rfl (by kernel_rfl) (by kernel_rfl) (Chg.refl _ _).drew ?_ ?_
          · trivial
          iterate 3 ((with_reducible apply Ch.Walk.eq); (case hd => rfl); (case hi => rfl); case h => (intro w2 hw2 N hN; simp only [Ch.depsOf, List.filterMap_nil, List.filterMap_cons, List.getElem?_toArray, List.getElem?_cons_zero, List.getElem?_cons_succ, Option.bind_some, List.nil_append, List.cons_append, Ch.Ob]; go_simp; (try go_bits); with_reducible exact hN _ (Chg.refl _ _) (fun _ h => h)))
          ((with_reducible apply Ch.Walk.eq); (case hd => rfl); (case hi => rfl); case h => (intro w2 hw2 N hN; (have hc := hw2.cell c1 (fun h => h)); simp only [Ch.depsOf, List.filterMap_nil, List.filterMap_cons, List.getElem?_toArray, List.getElem?_cons_zero, List.getElem?_cons_succ, Option.bind_some, List.nil_append, List.cons_append, Ch.Ob]; go_simp; (try go_bits); with_reducible exact hN _ (Chg.refl _ _) (fun _ h => h)))
          iterate 13 ((with_reducible apply Ch.Walk.eq); (case hd => rfl); (case hi => rfl); case h => (intro w2 hw2 N hN; simp only [Ch.depsOf, List.filterMap_nil, List.filterMap_cons, List.getElem?_toArray, List.getElem?_cons_zero, List.getElem?_cons_succ, Option.bind_some, List.nil_append, List.cons_append, Ch.Ob]; go_simp; (try go_bits); with_reducible exact hN _ (Chg.refl _ _) (fun _ h => h)))
          intro w4 hw4
          simp only [List.nil_append, List.cons_append, Ch.Fin, List.map_cons, List.map_nil, List.getD_cons_zero, List.getD_cons_succ]
          go_simp
          have hz4 := hbz.chg hw4 (fun h => h)
          have hch4 := hch.trans hw4 (fun _ h => .inl h)
          have z0 := hz4.cell (j := 0) rfl
          have y0 := hz4.free 0
          have z1 := hz4.cell (j := 1) rfl
          have y1 := hz4.free 1
          have z2 := hz4.cell (j := 2) rfl
          have y2 := hz4.free 2
          have z3 := hz4.cell (j := 3) rfl
          have y3 := hz4.free 3
          have z4 := hz4.cell (j := 4) rfl
          have y4 := hz4.free 4
          have z5 := hz4.cell (j := 5) rfl
          have y5 := hz4.free 5
          have z6 := hz4.cell (j := 6) rfl
          have y6 := hz4.free 6
          have z7 := hz4.cell (j := 7) rfl
          have y7 := hz4.free 7
          have z8 := hz4.cell (j := 8) rfl
          have y8 := hz4.free 8
          go_wp2_with fail
          refine bodyPost_ret (v := .tuple #[.agg #[.int .i64 0, .int .i64 0, .int .i64 0, .int .i64 0, .int .i64 0, .int .i64 0, .bool false, .slice none 0 0, .slice none 0 0], .int .i64 0, .int .i64 3]) (by simp [results, Tryd.results17, go_sem, z0, z1, z2, z3, z4, z5, z6, z7, z8]) rfl (HP _ _ ⟨?_, .inl ⟨by rw [HX.out]; simp, by rw [HX.out]; rfl⟩⟩)
          iterate 9 (refine Chg.setCell ?_ (.inr (Nat.le_refl _)) _)
          exact hch4
      · have HOW := Lib.hid (ownsRow_chg HOW0.out hc9 (fun _ _ h => h)); have HOT := Lib.hid (ownsRow_chg HOT0.out hc9 (fun _ _ h => h))
        have hbx := hbx0.chg hc9 (fun h => h)
        have hbz := hbz0.chg hc9 (fun h => h)
        have hch := hch0.trans hc9 (fun _ h => h.elim)
        have c1 := hc9.cell c10 (fun h => h)
        have HBT8 := Lib.hid (hc9.bytesAt HBT0.out (fun _ _ h => h))
        clear HOW0 HOT0 hbx0 hbz0 hch0 c10 HBT0 HAK
        obtain ⟨ua, uc, rfl, huby, _⟩ := hou.val
        have HUB := Lib.hid huby
        clear huby hou
        have HX2 : Hid (refToldErr l = if sb = true ∨ tellB ⟨f0, f1, f2, f3, f4, f5, f6, f7, f8⟩ ≠ T then 3 else 0) := by
          unfold Hid
          rw [HIN.out]
          by_cases hq : sb = true ∨ tellB ⟨f0, f1, f2, f3, f4, f5, f6, f7, f8⟩ ≠ T
          · rw [if_pos hq, if_pos (hq.elim .inl (fun h => .inr (.inr h)))]
          · rw [if_neg hq, if_neg]
            rintro (h | h | h)
            · exact hq (.inl h)
            · exact h hgd
            · exact hq (.inr h)
        clear HIN hgd
        generalize tellB ⟨f0, f1, f2, f3, f4, f5, f6, f7, f8⟩ = L at *
        cases sb
        · by_cases hLT : L = T
          · subst hLT
            have HX : Hid (refToldErr l = 0) := by unfold Hid; rw [HX2.out, if_neg (by simp)]
            clear HX2
            go_upto_region 29 with fail
            refine Ch.wp_region_chain _ (Chg (Nil)) [] (fun _ _ => True) (by kernel_rfl) (fun _ => Chg.refl _ _) (fun _ _ _ h k => h.trans k (fun _ h => .inl h)) [[], [0], [1], [2], [3], [4], [4, 5], [4, 6], [7], [8], [8, 9], [8], [8], [8, 11, 12], [8, 13], [8, 10, 14], [8, 15]] rfl (by kernel_rfl) (by kernel_rfl) (Chg.refl _ _).drew ?_ ?_
            · trivial
            iterate 3 ((with_reducible apply Ch.Walk.eq); (case hd => rfl); (case hi => rfl); case h => (intro w2 hw2 N hN; simp only [Ch.depsOf, List.filterMap_nil, List.filterMap_cons, List.getElem?_toArray, List.getElem?_cons_zero, List.getElem?_cons_succ, Option.bind_some, List.nil_append, List.cons_append, Ch.Ob]; go_simp; (try go_bits); with_reducible exact hN _ (Chg.refl _ _) (fun _ h => h)))
            ((with_reducible apply Ch.Walk.eq); (case hd => rfl); (case hi => rfl); case h => (intro w2 hw2 N hN; (have hc := hw2.cell c1 (fun h => h)); simp only [Ch.depsOf, List.filterMap_nil, List.filterMap_cons, List.getElem?_toArray, List.getElem?_cons_zero, List.getElem?_cons_succ, Option.bind_some, List.nil_append, List.cons_append, Ch.Ob]; go_simp; (try go_bits); with_reducible exact hN _ (Chg.refl _ _) (fun _ h => h)))
            iterate 6 ((with_reducible apply Ch.Walk.eq); (case hd => rfl); (case hi => rfl); case h => (intro w2 hw2 N hN; simp only [Ch.depsOf, List.filterMap_nil, List.filterMap_cons, List.getElem?_toArray, List.getElem?_cons_zero, List.getElem?_cons_succ, Option.bind_some, List.nil_append, List.cons_append, Ch.Ob]; go_simp; (try go_bits); with_reducible exact hN _ (Chg.refl _ _) (fun _ h => h)))
            ((with_reducible apply Ch.Walk.eq); (case hd => rfl); (case hi => rfl); case h => (intro w2 hw2 N hN; (have hcv := conv_bytes (dst := 9) Tryd.underlying25 Tryd.underlying5 Tryd.underlying9 (hw2.bytesAt HUB.out (fun _ _ h => h)) uc; rw [hlt8] at hcv); simp only [Ch.depsOf, List.filterMap_nil, List.filterMap_cons, List.getElem?_toArray, List.getElem?_cons_zero, List.getElem?_cons_succ, Option.bind_some, List.nil_append, List.cons_append, Ch.Ob]; go_simp; (try go_bits); with_reducible exact hN _ (Chg.refl _ _) (fun _ h => h)))
            iterate 3 ((with_reducible apply Ch.Walk.eq); (case hd => rfl); (case hi => rfl); case h => (intro w2 hw2 N hN; simp only [Ch.depsOf, List.filterMap_nil, List.filterMap_cons, List.getElem?_toArray, List.getElem?_cons_zero, List.getElem?_cons_succ, Option.bind_some, List.nil_append, List.cons_append, Ch.Ob]; go_simp; (try go_bits); with_reducible exact hN _ (Chg.refl _ _) (fun _ h => h)))
            ((with_reducible apply Ch.Walk.eq); (case hd => rfl); (case hi => rfl); case h => (intro w2 hw2 N hN; (have hcv := conv_bytes (dst := 9) Tryd.underlying25 Tryd.underlying5 Tryd.underlying9 (hw2.bytesAt HBT8.out (fun _ _ h => h)) cap; rw [hlt8] at hcv); simp only [Ch.depsOf, List.filterMap_nil, List.filterMap_cons, List.getElem?_toArray, List.getElem?_cons_zero, List.getElem?_cons_succ, Option.bind_some, List.nil_append, List.cons_append, Ch.Ob]; go_simp; (try go_bits); with_reducible exact hN _ (Chg.refl _ _) (fun _ h => h)))
            iterate 2 ((with_reducible apply Ch.Walk.eq); (case hd => rfl); (case hi => rfl); case h => (intro w2 hw2 N hN; simp only [Ch.depsOf, List.filterMap_nil, List.filterMap_cons, List.getElem?_toArray, List.getElem?_cons_zero, List.getElem?_cons_succ, Option.bind_some, List.nil_append, List.cons_append, Ch.Ob]; go_simp; (try go_bits); with_reducible exact hN _ (Chg.refl _ _) (fun _ h => h)))
            intro w4 hw4
            simp only [List.nil_append, List.cons_append, Ch.Fin, List.map_cons, List.map_nil, List.getD_cons_zero, List.getD_cons_succ]
            go_simp
            have hz4 := hbz.chg hw4 (fun h => h)
            have hch4 := hch.trans hw4 (fun _ h => .inl h)
            have z0 := hz4.cell (j := 0) rfl
            have y0 := hz4.free 0
            have z1 := hz4.cell (j := 1) rfl
            have y1 := hz4.free 1
            have z2 := hz4.cell (j := 2) rfl
            have y2 := hz4.free 2
            have z3 := hz4.cell (j := 3) rfl
            have y3 := hz4.free 3
            have z4 := hz4.cell (j := 4) rfl
            have y4 := hz4.free 4
            have z5 := hz4.cell (j := 5) rfl
            have y5 := hz4.free 5
            have z6 := hz4.cell (j := 6) rfl
            have y6 := hz4.free 6
            have z7 := hz4.cell (j := 7) rfl
            have y7 := hz4.free 7
            have z8 := hz4.cell (j := 8) rfl
            have y8 := hz4.free 8
            clear x0 x1 x2 x3 x4 x5 x6 x7 x8
            have hx4 := hbx.chg hw4 (fun h => h)
            have HO4 := Lib.hid (ownsRow_chg HOW.out hw4 (fun _ _ h => h)); have HT4 := Lib.hid (ownsRow_chg HOT.out hw4 (fun _ _ h => h))
            have x0 := hx4.cell (j := 0) rfl
            have x1 := hx4.cell (j := 1) rfl
            have x2 := hx4.cell (j := 2) rfl
            have x3 := hx4.cell (j := 3) rfl
            have x4 := hx4.cell (j := 4) rfl
            have x5 := hx4.cell (j := 5) rfl
            have x6 := hx4.cell (j := 6) rfl
            have x7 := hx4.cell (j := 7) rfl
            have x8 := hx4.cell (j := 8) rfl
            go_wp2_with fail
            refine bodyPost_ret (v := .tuple #[.agg #[.int .i64 f0, .int .i64 f1, .int .i64 f2, .int .i64 f3, .int .i64 f4, .int .i64 f5, .bool f6, .slice vx f7.length vc, .slice tx f8.length tc], .int .i64 (n : Nat), .int .i64 0]) (by simp [results, Tryd.results17, go_sem, z0, z1, z2, z3, z4, z5, z6, z7, z8]) rfl (HP _ _ ⟨?_, .inr ⟨HX.out, .slice vx f7.length vc, .slice tx f8.length tc, rfl, ?_, ?_, ?_, ?_⟩⟩)
            · iterate 9 (refine Chg.setCell ?_ (.inr (Nat.le_refl _)) _)
              exact hch4
            · refine ownsRow_chg HO4.out (S := fun i => i = w.heap.size) ?_ (fun i hi e => by have := hfr i hi; omega)
              iterate 9 (refine Chg.setCell (S := fun i => i = w.heap.size) ?_ (.inl rfl) _)
              exact Chg.refl _ _
            · refine ownsRow_chg HT4.out (S := fun i => i = w.heap.size) ?_ (fun i hi e => by have := hft i hi; omega)
              iterate 9 (refine Chg.setCell (S := fun i => i = w.heap.size) ?_ (.inl rfl) _)
              exact Chg.refl _ _
            · exact fun i hi => by have := hfr i hi; omega
            · exact fun i hi => by have := hft i hi; omega
          · have HX : Hid (refToldErr l = 3) := by unfold Hid; rw [HX2.out, if_pos (.inr hLT)]
            have hbq : (L == T) = false := by rw [beq_eq_false_iff_ne]; exact hLT
            clear HX2 hLT
            go_upto_region 29 with fail
            refine Ch.wp_region_chain _ (Chg (Nil)) [] (fun _ _ => True) (by kernel_rfl) (fun _ => Chg.refl _ _) (fun _ _ _ h k => h.trans k (fun _ h => .inl h)) [[], [0], [1], [2], [3], [4], [4, 5], [4, 6], [7], [8], [8, 9], [8], [8], [8, 11, 12], [8, 13], [8, 10, 14], [8, 15]] rfl (by kernel_rfl) (by kernel_rfl) (Chg.refl _ _).drew ?_ ?_
            · trivial
            iterate 3 ((with_reducible apply Ch.Walk.eq); (case hd => rfl); (case hi => rfl); case h => (intro w2 hw2 N hN; simp only [Ch.depsOf, List.filterMap_nil, List.filterMap_cons, List.getElem?_toArray, List.getElem?_cons_zero, List.getElem?_cons_succ, Option.bind_some, List.nil_append, List.cons_append, Ch.Ob]; go_simp; (try go_bits); with_reducible exact hN _ (Chg.refl _ _) (fun _ h => h)))
            ((with_reducible apply Ch.Walk.eq); (case hd => rfl); (case hi => rfl); case h => (intro w2 hw2 N hN; (have hc := hw2.cell c1 (fun h => h)); simp only [Ch.depsOf, List.filterMap_nil, List.filterMap_cons, List.getElem?_toArray, List.getElem?_cons_zero, List.getElem?_cons_succ, Option.bind_some, List.nil_append, List.cons_append, Ch.Ob]; go_simp; (try go_bits); with_reducible exact hN _ (Chg.refl _ _) (fun _ h => h)))
            iterate 6 ((with_reducible apply Ch.Walk.eq); (case hd => rfl); (case hi => rfl); case h => (intro w2 hw2 N hN; simp only [Ch.depsOf, List.filterMap_nil, List.filterMap_cons, List.getElem?_toArray, List.getElem?_cons_zero, List.getElem?_cons_succ, Option.bind_some, List.nil_append, List.cons_append, Ch.Ob]; go_simp; (try go_bits); with_reducible exact hN _ (Chg.refl _ _) (fun _ h => h)))
            ((with_reducible apply Ch.Walk.eq); (case hd => rfl); (case hi => rfl); case h => (intro w2 hw2 N hN; (have hcv := conv_bytes (dst := 9) Tryd.underlying25 Tryd.underlying5 Tryd.underlying9 (hw2.bytesAt HUB.out (fun _ _ h => h)) uc); simp only [Ch.depsOf, List.filterMap_nil, List.filterMap_cons, List.getElem?_toArray, List.getElem?_cons_zero, List.getElem?_cons_succ, Option.bind_some, List.nil_append, List.cons_append, Ch.Ob]; go_simp; (try go_bits); with_reducible exact hN _ (Chg.refl _ _) (fun _ h => h)))
            iterate 3 ((with_reducible apply Ch.Walk.eq); (case hd => rfl); (case hi => rfl); case h => (intro w2 hw2 N hN; simp only [Ch.depsOf, List.filterMap_nil, List.filterMap_cons, List.getElem?_toArray, List.getElem?_cons_zero, List.getElem?_cons_succ, Option.bind_some, List.nil_append, List.cons_append, Ch.Ob]; go_simp; (try go_bits); with_reducible exact hN _ (Chg.refl _ _) (fun _ h => h)))
            ((with_reducible apply Ch.Walk.eq); (case hd => rfl); (case hi => rfl); case h => (intro w2 hw2 N hN; (have hcv := conv_bytes (dst := 9) Tryd.underlying25 Tryd.underlying5 Tryd.underlying9 (hw2.bytesAt HBT8.out (fun _ _ h => h)) cap; rw [hlt8] at hcv); simp only [Ch.depsOf, List.filterMap_nil, List.filterMap_cons, List.getElem?_toArray, List.getElem?_cons_zero, List.getElem?_cons_succ, Option.bind_some, List.nil_append, List.cons_append, Ch.Ob]; go_simp; (try go_bits); with_reducible exact hN _ (Chg.refl _ _) (fun _ h => h)))
            iterate 2 ((with_reducible apply Ch.Walk.eq); (case hd => rfl); (case hi => rfl); case h => (intro w2 hw2 N hN; simp only [Ch.depsOf, List.filterMap_nil, List.filterMap_cons, List.getElem?_toArray, List.getElem?_cons_zero, List.getElem?_cons_succ, Option.bind_some, List.nil_append, List.cons_append, Ch.Ob]; go_simp; (try go_bits); with_reducible exact hN _ (Chg.refl _ _) (fun _ h => h)))
            intro w4 hw4
            simp only [List.nil_append, List.cons_append, Ch.Fin, List.map_cons, List.map_nil, List.getD_cons_zero, List.getD_cons_succ]
            go_simp
            have hz4 := hbz.chg hw4 (fun h => h)
            have hch4 := hch.trans hw4 (fun _ h => .inl h)
            have z0 := hz4.cell (j := 0) rfl
            have y0 := hz4.free 0
            have z1 := hz4.cell (j := 1) rfl
            have y1 := hz4.free 1
            have z2 := hz4.cell (j := 2) rfl
            have y2 := hz4.free 2
            have z3 := hz4.cell (j := 3) rfl
            have y3 := hz4.free 3
            have z4 := hz4.cell (j := 4) rfl
            have y4 := hz4.free 4
            have z5 := hz4.cell (j := 5) rfl
            have y5 := hz4.free 5
            have z6 := hz4.cell (j := 6) rfl
            have y6 := hz4.free 6
            have z7 := hz4.cell (j := 7) rfl
            have y7 := hz4.free 7
            have z8 := hz4.cell (j := 8) rfl
            have y8 := hz4.free 8
            go_wp2_with fail
            refine bodyPost_ret (v := .tuple #[.agg #[.int .i64 0, .int .i64 0, .int .i64 0, .int .i64 0, .int .i64 0, .int .i64 0, .bool false, .slice none 0 0, .slice none 0 0], .int .i64 0, .int .i64 3]) (by simp [results, Tryd.results17, go_sem, z0, z1, z2, z3, z4, z5, z6, z7, z8]) rfl (HP _ _ ⟨?_, .inl ⟨by rw [HX.out]; simp, by rw [HX.out]; rfl⟩⟩)
            iterate 9 (refine Chg.setCell ?_ (.inr (Nat.le_refl _)) _)
            exact hch4
        · have HX : Hid (refToldErr l = 3) := by unfold Hid; rw [HX2.out, if_pos (.inl rfl)]
          clear HX2
          go_upto_region 29 with fail
          refine Ch.wp_region_chain _ (Chg (Nil)) [] (fun _ _ => True) (by kernel_rfl) (fun _ => Chg.refl _ _) (fun _ _ _ h k => h.trans k (fun _ h => .inl h)) [[], [0], [1], [2], [3], [4], [4, 5], [4, 6], [7], [8], [8, 9], [8], [8], [8, 11, 12], [8, 13], [8, 10, 14], [8, 15]] rfl (by kernel_rfl) (by kernel_rfl) (Chg.refl _ _).drew ?_ ?_
          · trivial
          iterate 3 ((with_reducible apply Ch.Walk.eq); (case hd => rfl); (case hi => rfl); case h => (intro w2 hw2 N hN; simp only [Ch.depsOf, List.filterMap_nil, List.filterMap_cons, List.getElem?_toArray, List.getElem?_cons_zero, List.getElem?_cons_succ, Option.bind_some, List.nil_append, List.cons_append, Ch.Ob]; go_simp; (try go_bits); with_reducible exact hN _ (Chg.refl _ _) (fun _ h => h)))
          ((with_reducible apply Ch.Walk.eq); (case hd => rfl); (case hi => rfl); case h => (intro w2 hw2 N hN; (have hc := hw2.cell c1 (fun h => h)); simp only [Ch.depsOf, List.filterMap_nil, List.filterMap_cons, List.getElem?_toArray, List.getElem?_cons_zero, List.getElem?_cons_succ, Option.bind_some, List.nil_append, List.cons_append, Ch.Ob]; go_simp; (try go_bits); with_reducible exact hN _ (Chg.refl _ _) (fun _ h => h)))
          iterate 13 ((with_reducible apply Ch.Walk.eq); (case hd => rfl); (case hi => rfl); case h => (intro w2 hw2 N hN; simp only [Ch.depsOf, List.filterMap_nil, List.filterMap_cons, List.getElem?_toArray, List.getElem?_cons_zero, List.getElem?_cons_succ, Option.bind_some, List.nil_append, List.cons_append, Ch.Ob]; go_simp; (try go_bits); with_reducible exact hN _ (Chg.refl _ _) (fun _ h => h)))
          intro w4 hw4
          simp only [List.nil_append, List.cons_append, Ch.Fin, List.map_cons, List.map_nil, List.getD_cons_zero, List.getD_cons_succ]
          go_simp
          have hz4 := hbz.chg hw4 (fun h => h)
          have hch4 := hch.trans hw4 (fun _ h => .inl h)
          have z0 := hz4.cell (j := 0) rfl
          have y0 := hz4.free 0
          have z1 := hz4.cell (j := 1) rfl
          have y1 := hz4.free 1
          have z2 := hz4.cell (j := 2) rfl
          have y2 := hz4.free 2
          have z3 := hz4.cell (j := 3) rfl
          have y3 := hz4.free 3
          have z4 := hz4.cell (j := 4) rfl
          have y4 := hz4.free 4
          have z5 := hz4.cell (j := 5) rfl
          have y5 := hz4.free 5
          have z6 := hz4.cell (j := 6) rfl
          have y6 := hz4.free 6
          have z7 := hz4.cell (j := 7) rfl
          have y7 := hz4.free 7
          have z8 := hz4.cell (j := 8) rfl
          have y8 := hz4.free 8
          go_wp2_with fail
          refine bodyPost_ret (v := .tuple #[.agg #[.int .i64 0, .int .i64 0, .int .i64 0, .int .i64 0, .int .i64 0, .int .i64 0, .bool false, .slice none 0 0, .slice none 0 0], .int .i64 0, .int .i64 3]) (by simp [results, Tryd.results17, go_sem, z0, z1, z2, z3, z4, z5, z6, z7, z8]) rfl (HP _ _ ⟨?_, .inl ⟨by rw [HX.out]; simp, by rw [HX.out]; rfl⟩⟩)
          iterate 9 (refine Chg.setCell ?_ (.inr (Nat.le_refl _)) _)
          exact hch4
end Go.Proofs.YtmklicodfiggnaaDoor
