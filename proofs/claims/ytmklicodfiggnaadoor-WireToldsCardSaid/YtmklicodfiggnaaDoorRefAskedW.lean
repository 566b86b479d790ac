/-
  The walk of the document's Asked.
-/
import Derived.Test.YtmklicodfiggnaaDoorAskedC
import Derived.Test.YtmklicodfiggnaaDoorSizeW
import Derived.Test.YtmklicodfiggnaaDoorAskedW
import Derived.Test.YtmklicodfiggnaaDoorRefAskW
import Derived.Test.YtmklicodfiggnaaDoorRecsRW
import Derived.Outline
import Derived.Deep.DeepCutAuto
import Derived.Deep.CutBlock
set_option linter.unusedSimpArgs false
namespace Go.Proofs.YtmklicodfiggnaaDoor
open Go.RowKit

theorem whole_fit (a : Option Addr) (l : List UInt8) (cap : Nat) (w : World) (hl : l.length ≤ maxLen) (hb : BytesAt w a l) :
    Calls Tryd.prog 34 #[.slice a l.length cap] w fun e w' => Chg Nil w w' ∧ ((sizeErr l ≠ 0 ∧ e = .returned (.tuple #[.int .i64 0, .int .i64 (sizeErr l : Nat)])) ∨ (sizeErr l = 0 ∧ e = .returned (.tuple #[.int .i64 ((fromB l + 4 : Nat) : Int), .int .i64 0]))) := by
  refine (whole_any a l cap w hl hb).mono ?_
  rintro e w' ⟨hc, ⟨h, rfl⟩ | ⟨h, rfl⟩⟩
  · exact ⟨hc, .inl ⟨h, rfl⟩⟩
  · exact ⟨hc, .inr ⟨h, rfl⟩⟩

set_option maxHeartbeats 4000000 in
set_option maxRecDepth 100000 in
theorem masked_any (a : Option Addr) (l : List UInt8) (cap : Nat) (w : World) (hcap : l.length ≤ cap) (hl : cap ≤ maxLen) (hb : BytesAt w a l) :
    Calls Tryd.prog 14 #[.slice a l.length cap] w (AskedPost (fun k => .int .i64 (k : Nat)) (parseQ tkText (bodyQ l)).1 (refAskedErr l) w l) := by
  have HBW : Hid (∀ y, a = some y → 0 < l.length → y.block < w.heap.size) := by
    intro y hy h0
    obtain ⟨b, off, rfl, hc⟩ := hb 0 h0
    cases hy
    exact World.block_lt_of_cell? _ _ hc
  have hal0 := (Chg.refl Nil w).alloc (.cells #[.int .i64 0, .int .i64 0, .string ⟨#[]⟩, .int .i64 0, .int .i64 0, .int .i64 0, .int .i64 0, .int .i64 0, .int .i64 0, .int .i64 0, .bool false, .bool false, .slice none 0 0] 24)
  have hz0 := Box.new w [.int .i64 0, .int .i64 0, .string ⟨#[]⟩, .int .i64 0, .int .i64 0, .int .i64 0, .int .i64 0, .int .i64 0, .int .i64 0, .int .i64 0, .bool false, .bool false, .slice none 0 0] 24
  have hb0 := hal0.bytesAt hb (fun _ _ h => h)
  have HSZ := Lib.hid (whole_fit a l cap _ (Nat.le_trans hcap hl) hb0)
  have HB0 := Lib.hid hb0
  clear hb hb0
  go_enter Tryd.func14, Tryd.ntmps14
  go_wp2_with fail
  refine HSZ.out.mono ?_
  rintro e w1 ⟨hc1, hpost⟩
  have hch1 := hal0.trans hc1 (fun _ h => h.elim)
  have hz1 := hz0.chg hc1 (fun h => h)
  have hb1 := hc1.bytesAt HB0.out (fun _ _ h => h)
  have HB1 := Lib.hid hb1
  clear HSZ hz0 hal0 HB0 hb1 hc1
  rcases hpost with ⟨hne, rfl⟩ | ⟨h0, rfl⟩
  · have HE := Lib.hid (refasked_size hne)
    have HNE := Lib.hid hne
    clear hne
    generalize sizeErr l = er at *
    have hne1 : ¬ er = 0 := HNE.out
    have hne2 : ¬ (er : Int) = 0 := by omega
    have z0 := hz1.cell (j := 0) rfl
    have y0 := hz1.free 0
    have z1 := hz1.cell (j := 1) rfl
    have y1 := hz1.free 1
    have z2 := hz1.cell (j := 2) rfl
    have y2 := hz1.free 2
    have z3 := hz1.cell (j := 3) rfl
    have y3 := hz1.free 3
    have z4 := hz1.cell (j := 4) rfl
    have y4 := hz1.free 4
    have z5 := hz1.cell (j := 5) rfl
    have y5 := hz1.free 5
    have z6 := hz1.cell (j := 6) rfl
    have y6 := hz1.free 6
    have z7 := hz1.cell (j := 7) rfl
    have y7 := hz1.free 7
    have z8 := hz1.cell (j := 8) rfl
    have y8 := hz1.free 8
    have z9 := hz1.cell (j := 9) rfl
    have y9 := hz1.free 9
    have z10 := hz1.cell (j := 10) rfl
    have y10 := hz1.free 10
    have z11 := hz1.cell (j := 11) rfl
    have y11 := hz1.free 11
    have z12 := hz1.cell (j := 12) rfl
    have y12 := hz1.free 12

    go_wp2_with fail
    refine bodyPost_ret (v := .tuple #[.agg #[.int .i64 0, .int .i64 0, .string ⟨#[]⟩, .int .i64 0, .int .i64 0, .int .i64 0, .int .i64 0, .int .i64 0, .int .i64 0, .int .i64 0, .bool false, .bool false, .slice none 0 0], .int .i64 0, .int .i64 (er : Nat)]) (by simp [results, Tryd.results14, go_sem, z0, z1, z2, z3, z4, z5, z6, z7, z8, z9, z10, z11, z12]) rfl ⟨?_, .inl ⟨by rw [HE.out]; exact HNE.out, by rw [HE.out]⟩⟩
    iterate 13 (refine Chg.setCell ?_ (.inr (Nat.le_refl _)) _)
    exact hch1
  · have HIN := Lib.hid (refasked_in h0)
    have HBL := Lib.hid (bodyQ_len h0)
    obtain ⟨g1, g2, g3, g4⟩ := sizeErr_good h0
    have HN := Lib.hid (show ((fromB l + 4 : Nat) : Int) = ((fromB l + 4 : Nat) : Int) from rfl)
    have HBB : Hid (bodyQ l = (l.take (fromB l + 4)).drop 4) := rfl
    clear h0
    have HP0 : ∀ F, F = parseQ tkText (bodyQ l) → ∀ e w', (Chg Nil w w' ∧ ((refAskedErr l ≠ 0 ∧ e = .returned (.tuple #[.agg #[.int .i64 0, .int .i64 0, .string ⟨#[]⟩, .int .i64 0, .int .i64 0, .int .i64 0, .int .i64 0, .int .i64 0, .int .i64 0, .int .i64 0, .bool false, .bool false, .slice none 0 0], .int .i64 0, .int .i64 (refAskedErr l : Nat)])) ∨
    (refAskedErr l = 0 ∧ ∃ v, e = .returned (.tuple #[.agg (rqCells F.1 v).toArray, .int .i64 ((fromB l + 4 : Nat) : Int), .int .i64 ((0 : Nat) : Int)]) ∧ OwnR 99 w' v F.1.recs ∧ ∀ k, v.ownBlock = some k → w.heap.size ≤ k))) → AskedPost (fun k => .int .i64 (k : Nat)) (parseQ tkText (bodyQ l)).1 (refAskedErr l) w l e w' := fun F hF e w' h => by rw [hF] at h; exact h
    generalize hn : fromB l + 4 = n at *
    have hbn : (bodyQ l).length = n - 4 := by rw [HBL.out]; omega
    have hn4 : 4 < n := by omega
    have hnl : n ≤ l.length := by omega
    have hn10 : n ≤ 10004 := by omega
    clear hn g2 g3 g4 HBL HN
    obtain ⟨b, off, rfl⟩ := HB1.out.some (by omega)
    unfold maxLen at hl
    have hc4 : ¬ cap = 4 := by omega
    have hnc : n ≤ cap := by omega
    have h4n : (4 : Int) ≤ n := by omega
    have hby : BytesAt w1 (some ⟨b, off + 4, none⟩) (bodyQ l) := by rw [HBB.out]; exact (HB1.out.take n).drop 4
    have hbk : b < w1.heap.size := by
      obtain ⟨b', off', hbb, hcc⟩ := hby 0 (by omega)
      cases hbb
      exact World.block_lt_of_cell? _ _ hcc
    go_upto_region 5 with fail
    have hgb := Box.new w1 [.slice (some ⟨b, off + 4, none⟩) (n - 4) (cap - 4), .bool false] 80
    have hga := (Chg.refl Nil w1).alloc (.cells #[.slice (some ⟨b, off + 4, none⟩) (n - 4) (cap - 4), .bool false] 80)
    have hrd : RdS (w1.alloc (.cells #[.slice (some ⟨b, off + 4, none⟩) (n - 4) (cap - 4), .bool false] 80)) w1.heap.size b (bodyQ l, false) := ⟨off + 4, cap - 4, by omega, by rw [hbn]; omega, by unfold maxLen; omega, by rw [hbn]; exact hgb.cell (j := 0) rfl, hgb.cell (j := 1) rfl, hgb.free 0, hgb.free 1, hga.bytesAt hby (fun _ _ h => h)⟩
    have hz2 := hz1.chg hga (fun h => h)
    have hch2 := hch1.trans hga (fun _ h => .inl h)
    have hzg : w.heap.size < w1.heap.size := (Array.getElem?_eq_some_iff.1 hz1).1
    have hbw := HBW.out _ rfl (by omega)
    simp only at hbw
    have hgw : w1.heap.size < (w1.alloc (.cells #[.slice (some ⟨b, off + 4, none⟩) (n - 4) (cap - 4), .bool false] 80)).heap.size := by simp
    have HRD := Lib.hid hrd
    have hbT : BytesAt w1 (some ⟨b, off, none⟩) (l.take n) := HB1.out.take n
    have HBT := Lib.hid (hga.bytesAt hbT (fun _ _ h => h))
    have hlt8 : (l.take n).length = n := by rw [List.length_take]; omega
    have hbl : (bodyQ l).length ≤ 10000 := by rw [hbn]; omega
    clear hgb hga hrd hby hz1 hch1 HB1 hbk HBB hbn hbT
    go_wp2_with fail
    generalize (w1.alloc (.cells #[.slice (some ⟨b, off + 4, none⟩) (n - 4) (cap - 4), .bool false] 80)) = w2 at *
    generalize w1.heap.size = g at *
    generalize l.take n = T at *
    have hc2 := HBT
    refine (tnum_st g b (bodyQ l, false) w2 HRD.out).mono ?_
    rintro e w3 ⟨rfl, hc3, hr3⟩
    have HCH : Hid (parseQ tkText (bodyQ l) = tailS tkText (numS (bodyQ l, false)).1 (numS (numS (bodyQ l, false)).2).1 (topS tkText (numS (bodyQ l, false)).1 (numS (numS (bodyQ l, false)).2).2).1 (topS tkText (numS (bodyQ l, false)).1 (numS (numS (bodyQ l, false)).2).2).2) := rfl
    have HLE := Lib.hid (parseQ_le (bodyQ l))
    obtain ⟨F, hF⟩ : ∃ F, F = parseQ tkText (bodyQ l) := ⟨_, rfl⟩
    have HP := HP0 F hF
    rw [← hF] at HIN HCH HLE
    clear hF HP0
    generalize (numS (bodyQ l, false)).2 = s1 at *
    generalize (numS (bodyQ l, false)).1 = k at *
    have HR3 := Lib.hid hr3
    clear HRD hr3
    go_wp2_with fail
    refine (tnum_st g b s1 w3 HR3.out).mono ?_
    rintro e w4 ⟨rfl, hc4, hr4⟩
    generalize (numS s1).2 = s2 at *
    generalize (numS s1).1 = c at *
    have HR4 := Lib.hid hr4
    clear hr4
    go_upto_region 6 with fail
    have hxb := Box.new w4 [.int .i64 (k : Nat), .int .i64 (c : Nat), .string ⟨#[]⟩, .int .i64 0, .int .i64 0, .int .i64 0, .int .i64 0, .int .i64 0, .int .i64 0, .int .i64 0, .bool false, .bool false, .slice none 0 0] 24
    have hxa := (Chg.refl Nil w4).alloc (.cells #[.int .i64 (k : Nat), .int .i64 (c : Nat), .string ⟨#[]⟩, .int .i64 0, .int .i64 0, .int .i64 0, .int .i64 0, .int .i64 0, .int .i64 0, .int .i64 0, .bool false, .bool false, .slice none 0 0] 24)
    have hz4 := ((hz2.chg hc3 (by omega)).chg hc4 (by omega)).chg hxa (fun h => h)
    have hch4 := ((hch2.trans hc3 (fun i hi => .inr (by omega))).trans hc4 (fun i hi => .inr (by omega))).trans hxa (fun _ h => .inl h)
    have HR5 := Lib.hid (Rg.mk (HR4.out.chg hxa (fun h => h) (fun h => h)) hxb hz4 hch4)
    have hgx : g < w4.heap.size := by have := hc3.size; have := hc4.size; omega
    have hbT5 := hxa.bytesAt (hc4.bytesAt (hc3.bytesAt HBT.out (fun y hy => by cases hy; simp only; omega)) (fun y hy => by cases hy; simp only; omega)) (fun _ _ h => h)
    have HBT5 := Lib.hid hbT5
    clear hc2 HBT hbT5
    clear hxb hxa hz4 hch4 hz2 hch2 hc3 hc4 HR3 HR4 hgw
    generalize (w4.alloc (.cells #[.int .i64 (k : Nat), .int .i64 (c : Nat), .string ⟨#[]⟩, .int .i64 0, .int .i64 0, .int .i64 0, .int .i64 0, .int .i64 0, .int .i64 0, .int .i64 0, .bool false, .bool false, .slice none 0 0] 24)) = w5 at *
    have hxw : Chg Nil w5 w5 := Chg.refl _ _
    generalize w4.heap.size = x at *
    have q0 := HR5.out.bx.cell (j := 0) rfl
    go_upto_if 32 with fail
    go_cut [8] (fun u8 wx => u8 = .pointer (some ⟨x, 0, none⟩) ∧ Chg (fun i => i = g ∨ i = x) w5 wx ∧ Rg 24 [.int .i64 0, .int .i64 0, .string ⟨#[]⟩, .int .i64 0, .int .i64 0, .int .i64 0, .int .i64 0, .int .i64 0, .int .i64 0, .int .i64 0, .bool false, .bool false, .slice none 0 0] w g b x [.int .i64 (k : Nat), .int .i64 (c : Nat), .string ⟨(topS tkText k s2).1.toArray⟩, .int .i64 0, .int .i64 0, .int .i64 0, .int .i64 0, .int .i64 0, .int .i64 0, .int .i64 0, .bool false, .bool false, .slice none 0 0] (topS tkText k s2).2 wx)
    case first =>
      by_cases h7 : k = 7
      · have HT : Hid (topS tkText k s2 = ([], s2)) := by unfold Hid topS; rw [if_pos h7]
        have h7' : (k : Int) = 7 := by omega
        clear h7
        go_wp2_with fail
        go_meet
        case rel => exact ⟨rfl, Chg.refl _ _, by rw [HT.out]; exact HR5.out⟩
      · have HT : Hid (topS tkText k s2 = tkText 40 s2) := by unfold Hid topS; rw [if_neg h7]
        have h7' : ¬ (k : Int) = 7 := by omega
        clear h7
        go_wp2_with fail
        refine (ttext_st 40 g b s2 _ HR5.out.rd).mono ?_
        rintro e w7 ⟨rfl, hc7, hr7⟩
        have hx7 := HR5.out.go hzg hgx hc7 hr7
        have HX7 := Lib.hid hx7
        have HC7 := Lib.hid (hc7.weak (S' := fun i => i = g ∨ i = x) (fun _ h => .inl (.inl h)))
        clear hc7 hr7 q0
        have q2 := hx7.bx.cell (j := 2) rfl
        have y2 := hx7.bx.free 2
        clear hx7
        go_wp2_with fail
        go_meet
        case rel => exact ⟨rfl, HC7.out.setCell (.inl (.inr rfl)) _, by rw [HT.out]; exact HX7.out.set hzg hgx hbw 2 _⟩
    case rest =>
      obtain ⟨rfl, hc6, hR7⟩ := hcut
      have HR8 := Lib.hid hR7
      have HC6 := Lib.hid hc6
      clear hR7 HR5 q0 hc6
      have q0 := HR8.out.bx.cell (j := 0) rfl
      generalize (topS tkText k s2).2 = s5 at *
      generalize (topS tkText k s2).1 = t at *
      have hwd : ∃ wd, wd = wc := ⟨_, rfl⟩
      go_upto_block 0 with fail
      go_cut [8] (fun u8 wx => u8 = .pointer (some ⟨x, 0, none⟩) ∧ ∃ v, Rg 24 [.int .i64 0, .int .i64 0, .string ⟨#[]⟩, .int .i64 0, .int .i64 0, .int .i64 0, .int .i64 0, .int .i64 0, .int .i64 0, .int .i64 0, .bool false, .bool false, .slice none 0 0] w g b x (rqCells (tailS tkText k c t s5).1 v) (tailS tkText k c t s5).2 wx ∧ OwnR 99 wx v (tailS tkText k c t s5).1.recs ∧ (∀ i, v.ownBlock = some i → w.heap.size ≤ i ∧ x < i ∧ g < i) ∧ Chg (fun i => i = g ∨ i = x) w5 wx)
      case first =>
        by_cases h1 : k = 1
        · subst h1
          clear q0
          go_wp2_with fail
          refine (tnum_st g b s5 _ HR8.out.rd).mono ?_
          rintro e wq0 ⟨rfl, hc0, hr0⟩
          have HD0 := Lib.hid (HC6.out.trans hc0 (fun i hi => .inl (.inl hi)))
          have HQ0 := Lib.hid (HR8.out.go hzg hgx hc0 hr0)
          clear hc0 hr0
          have q3 := HQ0.out.bx.cell (j := 3) rfl
          have y3 := HQ0.out.bx.free 3
          go_wp2_with fail
          have HE1 := Lib.hid ((HD0.out.setCell (p := ⟨x, 3, none⟩) (.inl (.inr rfl)) (.int .i64 ((numS s5).1 : Nat))))
          have HS1 := Lib.hid (HQ0.out.set hzg hgx hbw 3 (.int .i64 ((numS s5).1 : Nat)))
          clear q3 y3
          generalize (wq0.setCell ⟨x, 3, none⟩ (.int .i64 ((numS s5).1 : Nat))) = ws1 at *
          refine (ttruth_st g b (numS s5).2 ws1 HS1.out.rd).mono ?_
          rintro e wq1 ⟨rfl, hc1, hr1⟩
          have HD1 := Lib.hid (HE1.out.trans hc1 (fun i hi => .inl (.inl hi)))
          have HQ1 := Lib.hid (HS1.out.go hzg hgx hc1 hr1)
          clear hc1 hr1
          have q10 := HQ1.out.bx.cell (j := 10) rfl
          have y10 := HQ1.out.bx.free 10
          go_wp2_with fail
          have HE2 := Lib.hid ((HD1.out.setCell (p := ⟨x, 10, none⟩) (.inl (.inr rfl)) (.bool (truthS (numS s5).2).1)))
          have HS2 := Lib.hid (HQ1.out.set hzg hgx hbw 10 (.bool (truthS (numS s5).2).1))
          clear q10 y10
          generalize (wq1.setCell ⟨x, 10, none⟩ (.bool (truthS (numS s5).2).1)) = ws2 at *
          refine (trecs_st false g b (truthS (numS s5).2).2 ws2 (by have := HS2.out.lt; omega) HS2.out.rd).mono ?_
          rintro e wq2 ⟨v, rfl, hc2, hr2, hown, hfr⟩
          obtain ⟨vx, vn, vc, rfl⟩ := ownsRow_form hown
          have hfx : ∀ i, (Value.slice vx vn vc).ownBlock = some i → w.heap.size ≤ i ∧ x < i ∧ g < i := fun i hi => by have := hfr i hi; have := HS2.out.lt; omega
          have HOW := Lib.hid hown
          clear hown hfr
          have HD2 := Lib.hid (HE2.out.trans hc2 (fun i hi => .inl (.inl hi)))
          have HQ2 := Lib.hid (HS2.out.go hzg hgx hc2 hr2)
          clear hc2 hr2
          have q12 := HQ2.out.bx.cell (j := 12) rfl
          have y12 := HQ2.out.bx.free 12
          go_wp2_with fail
          go_meet
          case rel => exact ⟨rfl, .slice vx vn vc, (HQ2.out.set hzg hgx hbw 12 (.slice vx vn vc)), ownsRow_chg HOW.out ((Chg.refl (fun k => k = x) _).setCell (.inl rfl) _) (fun i hi e => by have := hfx i hi; omega), hfx, (HD2.out.setCell (p := ⟨x, 12, none⟩) (.inl (.inr rfl)) (.slice vx vn vc))⟩
        · have h1' : ¬ (k : Int) = 1 := by omega
          by_cases h2 : k = 2
          · subst h2
            clear q0
            go_wp2_with fail
            refine (tnum_st g b s5 _ HR8.out.rd).mono ?_
            rintro e wq0 ⟨rfl, hc0, hr0⟩
            have HD0 := Lib.hid (HC6.out.trans hc0 (fun i hi => .inl (.inl hi)))
            have HQ0 := Lib.hid (HR8.out.go hzg hgx hc0 hr0)
            clear hc0 hr0
            have q3 := HQ0.out.bx.cell (j := 3) rfl
            have y3 := HQ0.out.bx.free 3
            go_wp2_with fail
            have HE1 := Lib.hid ((HD0.out.setCell (p := ⟨x, 3, none⟩) (.inl (.inr rfl)) (.int .i64 ((numS s5).1 : Nat))))
            have HS1 := Lib.hid (HQ0.out.set hzg hgx hbw 3 (.int .i64 ((numS s5).1 : Nat)))
            clear q3 y3
            generalize (wq0.setCell ⟨x, 3, none⟩ (.int .i64 ((numS s5).1 : Nat))) = ws1 at *
            refine (tnum_st g b (numS s5).2 ws1 HS1.out.rd).mono ?_
            rintro e wq1 ⟨rfl, hc1, hr1⟩
            have HD1 := Lib.hid (HE1.out.trans hc1 (fun i hi => .inl (.inl hi)))
            have HQ1 := Lib.hid (HS1.out.go hzg hgx hc1 hr1)
            clear hc1 hr1
            have q4 := HQ1.out.bx.cell (j := 4) rfl
            have y4 := HQ1.out.bx.free 4
            go_wp2_with fail
            have HE2 := Lib.hid ((HD1.out.setCell (p := ⟨x, 4, none⟩) (.inl (.inr rfl)) (.int .i64 ((numS (numS s5).2).1 : Nat))))
            have HS2 := Lib.hid (HQ1.out.set hzg hgx hbw 4 (.int .i64 ((numS (numS s5).2).1 : Nat)))
            clear q4 y4
            generalize (wq1.setCell ⟨x, 4, none⟩ (.int .i64 ((numS (numS s5).2).1 : Nat))) = ws2 at *
            refine (tnum_st g b (numS (numS s5).2).2 ws2 HS2.out.rd).mono ?_
            rintro e wq2 ⟨rfl, hc2, hr2⟩
            have HD2 := Lib.hid (HE2.out.trans hc2 (fun i hi => .inl (.inl hi)))
            have HQ2 := Lib.hid (HS2.out.go hzg hgx hc2 hr2)
            clear hc2 hr2
            have q5 := HQ2.out.bx.cell (j := 5) rfl
            have y5 := HQ2.out.bx.free 5
            go_wp2_with fail
            have HE3 := Lib.hid ((HD2.out.setCell (p := ⟨x, 5, none⟩) (.inl (.inr rfl)) (.int .i64 ((numS (numS (numS s5).2).2).1 : Nat))))
            have HS3 := Lib.hid (HQ2.out.set hzg hgx hbw 5 (.int .i64 ((numS (numS (numS s5).2).2).1 : Nat)))
            clear q5 y5
            generalize (wq2.setCell ⟨x, 5, none⟩ (.int .i64 ((numS (numS (numS s5).2).2).1 : Nat))) = ws3 at *
            refine (tnum_st g b (numS (numS (numS s5).2).2).2 ws3 HS3.out.rd).mono ?_
            rintro e wq3 ⟨rfl, hc3, hr3⟩
            have HD3 := Lib.hid (HE3.out.trans hc3 (fun i hi => .inl (.inl hi)))
            have HQ3 := Lib.hid (HS3.out.go hzg hgx hc3 hr3)
            clear hc3 hr3
            have q6 := HQ3.out.bx.cell (j := 6) rfl
            have y6 := HQ3.out.bx.free 6
            go_wp2_with fail
            have HE4 := Lib.hid ((HD3.out.setCell (p := ⟨x, 6, none⟩) (.inl (.inr rfl)) (.int .i64 ((numS (numS (numS (numS s5).2).2).2).1 : Nat))))
            have HS4 := Lib.hid (HQ3.out.set hzg hgx hbw 6 (.int .i64 ((numS (numS (numS (numS s5).2).2).2).1 : Nat)))
            clear q6 y6
            generalize (wq3.setCell ⟨x, 6, none⟩ (.int .i64 ((numS (numS (numS (numS s5).2).2).2).1 : Nat))) = ws4 at *
            refine (tnum_st g b (numS (numS (numS (numS s5).2).2).2).2 ws4 HS4.out.rd).mono ?_
            rintro e wq4 ⟨rfl, hc4, hr4⟩
            have HD4 := Lib.hid (HE4.out.trans hc4 (fun i hi => .inl (.inl hi)))
            have HQ4 := Lib.hid (HS4.out.go hzg hgx hc4 hr4)
            clear hc4 hr4
            have q7 := HQ4.out.bx.cell (j := 7) rfl
            have y7 := HQ4.out.bx.free 7
            go_wp2_with fail
            go_meet
            case rel => exact ⟨rfl, .slice none 0 0, (HQ4.out.set hzg hgx hbw 7 (.int .i64 ((numS (numS (numS (numS (numS s5).2).2).2).2).1 : Nat))), OwnR.nil _ _, by simp [Value.ownBlock], (HD4.out.setCell (p := ⟨x, 7, none⟩) (.inl (.inr rfl)) (.int .i64 ((numS (numS (numS (numS (numS s5).2).2).2).2).1 : Nat)))⟩
          · have h2' : ¬ (k : Int) = 2 := by omega
            by_cases h3 : k = 3
            · subst h3
              clear q0
              go_wp2_with fail
              refine (tnum_st g b s5 _ HR8.out.rd).mono ?_
              rintro e wq0 ⟨rfl, hc0, hr0⟩
              have HD0 := Lib.hid (HC6.out.trans hc0 (fun i hi => .inl (.inl hi)))
              have HQ0 := Lib.hid (HR8.out.go hzg hgx hc0 hr0)
              clear hc0 hr0
              have q3 := HQ0.out.bx.cell (j := 3) rfl
              have y3 := HQ0.out.bx.free 3
              go_wp2_with fail
              have HE1 := Lib.hid ((HD0.out.setCell (p := ⟨x, 3, none⟩) (.inl (.inr rfl)) (.int .i64 ((numS s5).1 : Nat))))
              have HS1 := Lib.hid (HQ0.out.set hzg hgx hbw 3 (.int .i64 ((numS s5).1 : Nat)))
              clear q3 y3
              generalize (wq0.setCell ⟨x, 3, none⟩ (.int .i64 ((numS s5).1 : Nat))) = ws1 at *
              refine (tnum_st g b (numS s5).2 ws1 HS1.out.rd).mono ?_
              rintro e wq1 ⟨rfl, hc1, hr1⟩
              have HD1 := Lib.hid (HE1.out.trans hc1 (fun i hi => .inl (.inl hi)))
              have HQ1 := Lib.hid (HS1.out.go hzg hgx hc1 hr1)
              clear hc1 hr1
              have q8 := HQ1.out.bx.cell (j := 8) rfl
              have y8 := HQ1.out.bx.free 8
              go_wp2_with fail
              go_meet
              case rel => exact ⟨rfl, .slice none 0 0, (HQ1.out.set hzg hgx hbw 8 (.int .i64 ((numS (numS s5).2).1 : Nat))), OwnR.nil _ _, by simp [Value.ownBlock], (HD1.out.setCell (p := ⟨x, 8, none⟩) (.inl (.inr rfl)) (.int .i64 ((numS (numS s5).2).1 : Nat)))⟩
            · have h3' : ¬ (k : Int) = 3 := by omega
              by_cases h4 : k = 4
              · subst h4
                clear q0
                go_wp2_with fail
                refine (tnum_st g b s5 _ HR8.out.rd).mono ?_
                rintro e wq0 ⟨rfl, hc0, hr0⟩
                have HD0 := Lib.hid (HC6.out.trans hc0 (fun i hi => .inl (.inl hi)))
                have HQ0 := Lib.hid (HR8.out.go hzg hgx hc0 hr0)
                clear hc0 hr0
                have q3 := HQ0.out.bx.cell (j := 3) rfl
                have y3 := HQ0.out.bx.free 3
                go_wp2_with fail
                have HE1 := Lib.hid ((HD0.out.setCell (p := ⟨x, 3, none⟩) (.inl (.inr rfl)) (.int .i64 ((numS s5).1 : Nat))))
                have HS1 := Lib.hid (HQ0.out.set hzg hgx hbw 3 (.int .i64 ((numS s5).1 : Nat)))
                clear q3 y3
                generalize (wq0.setCell ⟨x, 3, none⟩ (.int .i64 ((numS s5).1 : Nat))) = ws1 at *
                refine (tnum_st g b (numS s5).2 ws1 HS1.out.rd).mono ?_
                rintro e wq1 ⟨rfl, hc1, hr1⟩
                have HD1 := Lib.hid (HE1.out.trans hc1 (fun i hi => .inl (.inl hi)))
                have HQ1 := Lib.hid (HS1.out.go hzg hgx hc1 hr1)
                clear hc1 hr1
                have q4 := HQ1.out.bx.cell (j := 4) rfl
                have y4 := HQ1.out.bx.free 4
                go_wp2_with fail
                go_meet
                case rel => exact ⟨rfl, .slice none 0 0, (HQ1.out.set hzg hgx hbw 4 (.int .i64 ((numS (numS s5).2).1 : Nat))), OwnR.nil _ _, by simp [Value.ownBlock], (HD1.out.setCell (p := ⟨x, 4, none⟩) (.inl (.inr rfl)) (.int .i64 ((numS (numS s5).2).1 : Nat)))⟩
              · have h4' : ¬ (k : Int) = 4 := by omega
                by_cases h5 : k = 5
                · subst h5
                  clear q0
                  go_wp2_with fail
                  refine (tnum_st g b s5 _ HR8.out.rd).mono ?_
                  rintro e wq0 ⟨rfl, hc0, hr0⟩
                  have HD0 := Lib.hid (HC6.out.trans hc0 (fun i hi => .inl (.inl hi)))
                  have HQ0 := Lib.hid (HR8.out.go hzg hgx hc0 hr0)
                  clear hc0 hr0
                  have q9 := HQ0.out.bx.cell (j := 9) rfl
                  have y9 := HQ0.out.bx.free 9
                  go_wp2_with fail
                  have HE1 := Lib.hid ((HD0.out.setCell (p := ⟨x, 9, none⟩) (.inl (.inr rfl)) (.int .i64 ((numS s5).1 : Nat))))
                  have HS1 := Lib.hid (HQ0.out.set hzg hgx hbw 9 (.int .i64 ((numS s5).1 : Nat)))
                  clear q9 y9
                  generalize (wq0.setCell ⟨x, 9, none⟩ (.int .i64 ((numS s5).1 : Nat))) = ws1 at *
                  refine (ttruth_st g b (numS s5).2 ws1 HS1.out.rd).mono ?_
                  rintro e wq1 ⟨rfl, hc1, hr1⟩
                  have HD1 := Lib.hid (HE1.out.trans hc1 (fun i hi => .inl (.inl hi)))
                  have HQ1 := Lib.hid (HS1.out.go hzg hgx hc1 hr1)
                  clear hc1 hr1
                  have q11 := HQ1.out.bx.cell (j := 11) rfl
                  have y11 := HQ1.out.bx.free 11
                  go_wp2_with fail
                  go_meet
                  case rel => exact ⟨rfl, .slice none 0 0, (HQ1.out.set hzg hgx hbw 11 (.bool (truthS (numS s5).2).1)), OwnR.nil _ _, by simp [Value.ownBlock], (HD1.out.setCell (p := ⟨x, 11, none⟩) (.inl (.inr rfl)) (.bool (truthS (numS s5).2).1))⟩
                · have h5' : ¬ (k : Int) = 5 := by omega
                  have HT : Hid (tailS tkText k c t s5 = (rq0 k c t, s5)) := by unfold Hid tailS; rw [if_neg h1, if_neg h2, if_neg h3, if_neg h4, if_neg h5]
                  clear h1 h2 h3 h4 h5
                  go_wp2_with fail
                  go_meet
                  case rel => exact ⟨rfl, .slice none 0 0, by rw [HT.out]; exact HR8.out, by rw [HT.out]; exact OwnR.nil _ _, by simp [Value.ownBlock], HC6.out⟩
      case rest =>
        obtain ⟨rfl, v, hR9, hown, hfr, hc9⟩ := hcut
        obtain ⟨vx, vn, vc, rfl⟩ := ownsRow_form hown
        have hF := HCH.out
        rw [← hF] at hR9 hown
        clear hF HCH
        obtain ⟨⟨f0, f1, f2, f3, f4, f5, f6, f7, f8, f9, f10, f11, f12⟩, sl, sb⟩ := F
        simp only at HIN hR9 hown HP HLE
        obtain ⟨⟨roff, rcap, hrd⟩, hbx, hbz, hch⟩ := hR9
        have HBT9 := Lib.hid (hc9.bytesAt HBT5.out (fun y hy => by cases hy; simp only; omega))
        obtain ⟨va, vcap, hv, hrecs, hvle⟩ := hown.recs
        simp only [Value.slice.injEq] at hv
        obtain ⟨rfl, rfl, rfl⟩ := hv
        obtain ⟨le1, le2, le3⟩ := HLE.out
        have HAK := Lib.hid (mask_any f0 f1 f3 f4 f5 f6 f7 f8 f9 f2 f10 f11 f12 vx vc wc (by omega) le1 le3 hrecs)
        have HOW := Lib.hid hown
        have c1 := hrd.c1
        clear hown hrecs hrd hc9 HBT5 HR8 HC6 q0 HLE le1 le2 le3 hvle
        have x0 := hbx.cell (j := 0) rfl
        have x1 := hbx.cell (j := 1) rfl
        have x2 := hbx.cell (j := 2) rfl
        have x3 := hbx.cell (j := 3) rfl
        have x4 := hbx.cell (j := 4) rfl
        have x5 := hbx.cell (j := 5) rfl
        have x6 := hbx.cell (j := 6) rfl
        have x7 := hbx.cell (j := 7) rfl
        have x8 := hbx.cell (j := 8) rfl
        have x9 := hbx.cell (j := 9) rfl
        have x10 := hbx.cell (j := 10) rfl
        have x11 := hbx.cell (j := 11) rfl
        have x12 := hbx.cell (j := 12) rfl
        go_wp2_with fail
        refine HAK.out.mono ?_
        have HOW0 := HOW
        have hbx0 := hbx
        have hbz0 := hbz
        have hch0 := hch
        have c10 := c1
        have HBT0 := HBT9
        clear HOW hbx hbz hch c1 HBT9
        rintro e w9 ⟨hc9, ⟨hbd, rfl⟩ | ⟨hgd, u, rfl, hou, _⟩⟩
        · have HOW := Lib.hid (ownsRow_chg HOW0.out hc9 (fun _ _ h => h))
          have hbx := hbx0.chg hc9 (fun h => h)
          have hbz := hbz0.chg hc9 (fun h => h)
          have hch := hch0.trans hc9 (fun _ h => h.elim)
          have c1 := hc9.cell c10 (fun h => h)
          have HBT8 := Lib.hid (hc9.bytesAt HBT0.out (fun _ _ h => h))
          clear HOW0 hbx0 hbz0 hch0 c10 HBT0 HAK
          have HX : Hid (refAskedErr l = 3) := by unfold Hid; rw [HIN.out, if_pos (.inr (.inl hbd))]
          clear HIN
          generalize askErr ⟨f0, f1, f2, f3, f4, f5, f6, f7, f8, f9, f10, f11, f12⟩ = ce at *
          have hne : ¬ ((ce : Int) = 0) := by omega
          have hne2 : ¬ ce = 0 := hbd
          clear hbd
          cases sb
          · go_upto_region 29 with fail
            refine Ch.wp_region_chain _ (Chg (Nil)) [] (fun _ _ => True) (by kernel_rfl) (fun _ => Chg.refl _ _) (fun _ _ _ h k => h.trans k (fun _ h => .inl h)) [[], [0], [1], [2], [3], [4], [4, 5], [4, 6], [7], [8], [8, 9], [8], [8], [8, 11, 12], [8, 13], [8, 10, 14], [8, 15]] rfl (by kernel_rfl) (by kernel_rfl) (Chg.refl _ _).drew ?_ ?_
            · trivial
            iterate 3 ((with_reducible apply Ch.Walk.eq); (case hd => rfl); (case hi => rfl); case h => (intro w2 hw2 N hN; simp only [Ch.depsOf, List.filterMap_nil, List.filterMap_cons, List.getElem?_toArray, List.getElem?_cons_zero, List.getElem?_cons_succ, Option.bind_some, List.nil_append, List.cons_append, Ch.Ob]; go_simp; (try go_bits); with_reducible exact hN _ (Chg.refl _ _) (fun _ h => h)))
            ((with_reducible apply Ch.Walk.eq); (case hd => rfl); (case hi => rfl); case h => (intro w2 hw2 N hN; (have hc := hw2.cell c1 (fun h => h)); simp only [Ch.depsOf, List.filterMap_nil, List.filterMap_cons, List.getElem?_toArray, List.getElem?_cons_zero, List.getElem?_cons_succ, Option.bind_some, List.nil_append, List.cons_append, Ch.Ob]; go_simp; (try go_bits); with_reducible exact hN _ (Chg.refl _ _) (fun _ h => h)))
            iterate 13 ((with_reducible apply Ch.Walk.eq); (case hd => rfl); (case hi => rfl); case h => (intro w2 hw2 N hN; simp only [Ch.depsOf, List.filterMap_nil, List.filterMap_cons, List.getElem?_toArray, List.getElem?_cons_zero, List.getElem?_cons_succ, Option.bind_some, List.nil_append, List.cons_append, Ch.Ob]; go_simp; (try go_bits); with_reducible exact hN _ (Chg.refl _ _) (fun _ h => h)))
            intro w4 hw4
            simp only [List.nil_append, List.cons_append, Ch.Fin, List.map_cons, List.map_nil, List.getD_cons_zero, List.getD_cons_succ]
            go_simp
            have hz4 := hbz.chg hw4 (fun h => h)
            have hch4 := hch.trans hw4 (fun _ h => .inl h)
            have z0 := hz4.cell (j := 0) rfl
            have y0 := hz4.free 0
            have z1 := hz4.cell (j := 1) rfl
            have y1 := hz4.free 1
            have z2 := hz4.cell (j := 2) rfl
            have y2 := hz4.free 2
            have z3 := hz4.cell (j := 3) rfl
            have y3 := hz4.free 3
            have z4 := hz4.cell (j := 4) rfl
            have y4 := hz4.free 4
            have z5 := hz4.cell (j := 5) rfl
            have y5 := hz4.free 5
            have z6 := hz4.cell (j := 6) rfl
            have y6 := hz4.free 6
            have z7 := hz4.cell (j := 7) rfl
            have y7 := hz4.free 7
            have z8 := hz4.cell (j := 8) rfl
            have y8 := hz4.free 8
            have z9 := hz4.cell (j := 9) rfl
            have y9 := hz4.free 9
            have z10 := hz4.cell (j := 10) rfl
            have y10 := hz4.free 10
            have z11 := hz4.cell (j := 11) rfl
            have y11 := hz4.free 11
            have z12 := hz4.cell (j := 12) rfl
            have y12 := hz4.free 12
            go_wp2_with fail
            refine bodyPost_ret (v := .tuple #[.agg #[.int .i64 0, .int .i64 0, .string ⟨#[]⟩, .int .i64 0, .int .i64 0, .int .i64 0, .int .i64 0, .int .i64 0, .int .i64 0, .int .i64 0, .bool false, .bool false, .slice none 0 0], .int .i64 0, .int .i64 3]) (by simp [results, Tryd.results14, go_sem, z0, z1, z2, z3, z4, z5, z6, z7, z8, z9, z10, z11, z12]) rfl (HP _ _ ⟨?_, .inl ⟨by rw [HX.out]; simp, by rw [HX.out]; rfl⟩⟩)
            iterate 13 (refine Chg.setCell ?_ (.inr (Nat.le_refl _)) _)
            exact hch4
          · go_upto_region 29 with fail
            refine Ch.wp_region_chain _ (Chg (Nil)) [] (fun _ _ => True) (by kernel_rfl) (fun _ => Chg.refl _ _) (fun _ _ _ h k => h.trans k (fun _ h => .inl h)) [[], [0], [1], [2], [3], [4], [4, 5], [4, 6], [7], [8], [8, 9], [8], [8], [8, 11, 12], [8, 13], [8, 10, 14], [8, 15]] rfl (by kernel_rfl) (by kernel_rfl) (Chg.refl _ _).drew ?_ ?_
            · trivial
            iterate 3 ((with_reducible apply Ch.Walk.eq); (case hd => rfl); (case hi => rfl); case h => (intro w2 hw2 N hN; simp only [Ch.depsOf, List.filterMap_nil, List.filterMap_cons, List.getElem?_toArray, List.getElem?_cons_zero, List.getElem?_cons_succ, Option.bind_some, List.nil_append, List.cons_append, Ch.Ob]; go_simp; (try go_bits); with_reducible exact hN _ (Chg.refl _ _) (fun _ h => h)))
            ((with_reducible apply Ch.Walk.eq); (case hd => rfl); (case hi => rfl); case h => (intro w2 hw2 N hN; (have hc := hw2.cell c1 (fun h => h)); simp only [Ch.depsOf, List.filterMap_nil, List.filterMap_cons, List.getElem?_toArray, List.getElem?_cons_zero, List.getElem?_cons_succ, Option.bind_some, List.nil_append, List.cons_append, Ch.Ob]; go_simp; (try go_bits); with_reducible exact hN _ (Chg.refl _ _) (fun _ h => h)))
            iterate 13 ((with_reducible apply Ch.Walk.eq); (case hd => rfl); (case hi => rfl); case h => (intro w2 hw2 N hN; simp only [Ch.depsOf, List.filterMap_nil, List.filterMap_cons, List.getElem?_toArray, List.getElem?_cons_zero, List.getElem?_cons_succ, Option.bind_some, List.nil_append, List.cons_append, Ch.Ob]; go_simp; (try go_bits); with_reducible exact hN _ (Chg.refl _ _) (fun _ h => h)))
            intro w4 hw4
            simp only [List.nil_append, List.cons_append, Ch.Fin, List.map_cons, List.map_nil, List.getD_cons_zero, List.getD_cons_succ]
            go_simp
            have hz4 := hbz.chg hw4 (fun h => h)
            have hch4 := hch.trans hw4 (fun _ h => .inl h)
            have z0 := hz4.cell (j := 0) rfl
            have y0 := hz4.free 0
            have z1 := hz4.cell (j := 1) rfl
            have y1 := hz4.free 1
            have z2 := hz4.cell (j := 2) rfl
            have y2 := hz4.free 2
            have z3 := hz4.cell (j := 3) rfl
            have y3 := hz4.free 3
            have z4 := hz4.cell (j := 4) rfl
            have y4 := hz4.free 4
            have z5 := hz4.cell (j := 5) rfl
            have y5 := hz4.free 5
            have z6 := hz4.cell (j := 6) rfl
            have y6 := hz4.free 6
            have z7 := hz4.cell (j := 7) rfl
            have y7 := hz4.free 7
            have z8 := hz4.cell (j := 8) rfl
            have y8 := hz4.free 8
            have z9 := hz4.cell (j := 9) rfl
            have y9 := hz4.free 9
            have z10 := hz4.cell (j := 10) rfl
            have y10 := hz4.free 10
            have z11 := hz4.cell (j := 11) rfl
            have y11 := hz4.free 11
            have z12 := hz4.cell (j := 12) rfl
            have y12 := hz4.free 12
            go_wp2_with fail
            refine bodyPost_ret (v := .tuple #[.agg #[.int .i64 0, .int .i64 0, .string ⟨#[]⟩, .int .i64 0, .int .i64 0, .int .i64 0, .int .i64 0, .int .i64 0, .int .i64 0, .int .i64 0, .bool false, .bool false, .slice none 0 0], .int .i64 0, .int .i64 3]) (by simp [results, Tryd.results14, go_sem, z0, z1, z2, z3, z4, z5, z6, z7, z8, z9, z10, z11, z12]) rfl (HP _ _ ⟨?_, .inl ⟨by rw [HX.out]; simp, by rw [HX.out]; rfl⟩⟩)
            iterate 13 (refine Chg.setCell ?_ (.inr (Nat.le_refl _)) _)
            exact hch4
        · have HOW := Lib.hid (ownsRow_chg HOW0.out hc9 (fun _ _ h => h))
          have hbx := hbx0.chg hc9 (fun h => h)
          have hbz := hbz0.chg hc9 (fun h => h)
          have hch := hch0.trans hc9 (fun _ h => h.elim)
          have c1 := hc9.cell c10 (fun h => h)
          have HBT8 := Lib.hid (hc9.bytesAt HBT0.out (fun _ _ h => h))
          clear HOW0 hbx0 hbz0 hch0 c10 HBT0 HAK
          obtain ⟨ua, uc, rfl, huby, _⟩ := hou.val
          have HUB := Lib.hid huby
          clear huby hou
          have HX2 : Hid (refAskedErr l = if sb = true ∨ askB ⟨f0, f1, f2, f3, f4, f5, f6, f7, f8, f9, f10, f11, f12⟩ ≠ T then 3 else 0) := by
            unfold Hid
            rw [HIN.out]
            by_cases hq : sb = true ∨ askB ⟨f0, f1, f2, f3, f4, f5, f6, f7, f8, f9, f10, f11, f12⟩ ≠ T
            · rw [if_pos hq, if_pos (hq.elim .inl (fun h => .inr (.inr h)))]
            · rw [if_neg hq, if_neg]
              rintro (h | h | h)
              · exact hq (.inl h)
              · exact h hgd
              · exact hq (.inr h)
          clear HIN hgd
          generalize askB ⟨f0, f1, f2, f3, f4, f5, f6, f7, f8, f9, f10, f11, f12⟩ = L at *
          cases sb
          · by_cases hLT : L = T
            · subst hLT
              have HX : Hid (refAskedErr l = 0) := by unfold Hid; rw [HX2.out, if_neg (by simp)]
              clear HX2
              go_upto_region 29 with fail
              refine Ch.wp_region_chain _ (Chg (Nil)) [] (fun _ _ => True) (by kernel_rfl) (fun _ => Chg.refl _ _) (fun _ _ _ h k => h.trans k (fun _ h => .inl h)) [[], [0], [1], [2], [3], [4], [4, 5], [4, 6], [7], [8], [8, 9], [8], [8], [8, 11, 12], [8, 13], [8, 10, 14], [8, 15]] rfl (by kernel_rfl) (by kernel_rfl) (Chg.refl _ _).drew ?_ ?_
              · trivial
              iterate 3 ((with_reducible apply Ch.Walk.eq); (case hd => rfl); (case hi => rfl); case h => (intro w2 hw2 N hN; simp only [Ch.depsOf, List.filterMap_nil, List.filterMap_cons, List.getElem?_toArray, List.getElem?_cons_zero, List.getElem?_cons_succ, Option.bind_some, List.nil_append, List.cons_append, Ch.Ob]; go_simp; (try go_bits); with_reducible exact hN _ (Chg.refl _ _) (fun _ h => h)))
              ((with_reducible apply Ch.Walk.eq); (case hd => rfl); (case hi => rfl); case h => (intro w2 hw2 N hN; (have hc := hw2.cell c1 (fun h => h)); simp only [Ch.depsOf, List.filterMap_nil, List.filterMap_cons, List.getElem?_toArray, List.getElem?_cons_zero, List.getElem?_cons_succ, Option.bind_some, List.nil_append, List.cons_append, Ch.Ob]; go_simp; (try go_bits); with_reducible exact hN _ (Chg.refl _ _) (fun _ h => h)))
              iterate 6 ((with_reducible apply Ch.Walk.eq); (case hd => rfl); (case hi => rfl); case h => (intro w2 hw2 N hN; simp only [Ch.depsOf, List.filterMap_nil, List.filterMap_cons, List.getElem?_toArray, List.getElem?_cons_zero, List.getElem?_cons_succ, Option.bind_some, List.nil_append, List.cons_append, Ch.Ob]; go_simp; (try go_bits); with_reducible exact hN _ (Chg.refl _ _) (fun _ h => h)))
              ((with_reducible apply Ch.Walk.eq); (case hd => rfl); (case hi => rfl); case h => (intro w2 hw2 N hN; (have hcv := conv_bytes (dst := 9) Tryd.underlying25 Tryd.underlying5 Tryd.underlying9 (hw2.bytesAt HUB.out (fun _ _ h => h)) uc; rw [hlt8] at hcv); simp only [Ch.depsOf, List.filterMap_nil, List.filterMap_cons, List.getElem?_toArray, List.getElem?_cons_zero, List.getElem?_cons_succ, Option.bind_some, List.nil_append, List.cons_append, Ch.Ob]; go_simp; (try go_bits); with_reducible exact hN _ (Chg.refl _ _) (fun _ h => h)))
              iterate 3 ((with_reducible apply Ch.Walk.eq); (case hd => rfl); (case hi => rfl); case h => (intro w2 hw2 N hN; simp only [Ch.depsOf, List.filterMap_nil, List.filterMap_cons, List.getElem?_toArray, List.getElem?_cons_zero, List.getElem?_cons_succ, Option.bind_some, List.nil_append, List.cons_append, Ch.Ob]; go_simp; (try go_bits); with_reducible exact hN _ (Chg.refl _ _) (fun _ h => h)))
              ((with_reducible apply Ch.Walk.eq); (case hd => rfl); (case hi => rfl); case h => (intro w2 hw2 N hN; (have hcv := conv_bytes (dst := 9) Tryd.underlying25 Tryd.underlying5 Tryd.underlying9 (hw2.bytesAt HBT8.out (fun _ _ h => h)) cap; rw [hlt8] at hcv); simp only [Ch.depsOf, List.filterMap_nil, List.filterMap_cons, List.getElem?_toArray, List.getElem?_cons_zero, List.getElem?_cons_succ, Option.bind_some, List.nil_append, List.cons_append, Ch.Ob]; go_simp; (try go_bits); with_reducible exact hN _ (Chg.refl _ _) (fun _ h => h)))
              iterate 2 ((with_reducible apply Ch.Walk.eq); (case hd => rfl); (case hi => rfl); case h => (intro w2 hw2 N hN; simp only [Ch.depsOf, List.filterMap_nil, List.filterMap_cons, List.getElem?_toArray, List.getElem?_cons_zero, List.getElem?_cons_succ, Option.bind_some, List.nil_append, List.cons_append, Ch.Ob]; go_simp; (try go_bits); with_reducible exact hN _ (Chg.refl _ _) (fun _ h => h)))
              intro w4 hw4
              simp only [List.nil_append, List.cons_append, Ch.Fin, List.map_cons, List.map_nil, List.getD_cons_zero, List.getD_cons_succ]
              go_simp
              have hz4 := hbz.chg hw4 (fun h => h)
              have hch4 := hch.trans hw4 (fun _ h => .inl h)
              have z0 := hz4.cell (j := 0) rfl
              have y0 := hz4.free 0
              have z1 := hz4.cell (j := 1) rfl
              have y1 := hz4.free 1
              have z2 := hz4.cell (j := 2) rfl
              have y2 := hz4.free 2
              have z3 := hz4.cell (j := 3) rfl
              have y3 := hz4.free 3
              have z4 := hz4.cell (j := 4) rfl
              have y4 := hz4.free 4
              have z5 := hz4.cell (j := 5) rfl
              have y5 := hz4.free 5
              have z6 := hz4.cell (j := 6) rfl
              have y6 := hz4.free 6
              have z7 := hz4.cell (j := 7) rfl
              have y7 := hz4.free 7
              have z8 := hz4.cell (j := 8) rfl
              have y8 := hz4.free 8
              have z9 := hz4.cell (j := 9) rfl
              have y9 := hz4.free 9
              have z10 := hz4.cell (j := 10) rfl
              have y10 := hz4.free 10
              have z11 := hz4.cell (j := 11) rfl
              have y11 := hz4.free 11
              have z12 := hz4.cell (j := 12) rfl
              have y12 := hz4.free 12
              clear x0 x1 x2 x3 x4 x5 x6 x7 x8 x9 x10 x11 x12
              have hx4 := hbx.chg hw4 (fun h => h)
              have HO4 := Lib.hid (ownsRow_chg HOW.out hw4 (fun _ _ h => h))
              have x0 := hx4.cell (j := 0) rfl
              have x1 := hx4.cell (j := 1) rfl
              have x2 := hx4.cell (j := 2) rfl
              have x3 := hx4.cell (j := 3) rfl
              have x4 := hx4.cell (j := 4) rfl
              have x5 := hx4.cell (j := 5) rfl
              have x6 := hx4.cell (j := 6) rfl
              have x7 := hx4.cell (j := 7) rfl
              have x8 := hx4.cell (j := 8) rfl
              have x9 := hx4.cell (j := 9) rfl
              have x10 := hx4.cell (j := 10) rfl
              have x11 := hx4.cell (j := 11) rfl
              have x12 := hx4.cell (j := 12) rfl
              go_wp2_with fail
              refine bodyPost_ret (v := .tuple #[.agg #[.int .i64 f0, .int .i64 f1, .string f2, .int .i64 f3, .int .i64 f4, .int .i64 f5, .int .i64 f6, .int .i64 f7, .int .i64 f8, .int .i64 f9, .bool f10, .bool f11, .slice vx f12.length vc], .int .i64 (n : Nat), .int .i64 0]) (by simp [results, Tryd.results14, go_sem, z0, z1, z2, z3, z4, z5, z6, z7, z8, z9, z10, z11, z12]) rfl (HP _ _ ⟨?_, .inr ⟨HX.out, .slice vx f12.length vc, rfl, ?_, ?_⟩⟩)
              · iterate 13 (refine Chg.setCell ?_ (.inr (Nat.le_refl _)) _)
                exact hch4
              · refine ownsRow_chg HO4.out (S := fun i => i = w.heap.size) ?_ (fun i hi e => by have := hfr i hi; omega)
                iterate 13 (refine Chg.setCell (S := fun i => i = w.heap.size) ?_ (.inl rfl) _)
                exact Chg.refl _ _
              · exact fun i hi => (hfr i hi).1
            · have HX : Hid (refAskedErr l = 3) := by unfold Hid; rw [HX2.out, if_pos (.inr hLT)]
              have hbq : (L == T) = false := by rw [beq_eq_false_iff_ne]; exact hLT
              clear HX2 hLT
              go_upto_region 29 with fail
              refine Ch.wp_region_chain _ (Chg (Nil)) [] (fun _ _ => True) (by kernel_rfl) (fun _ => Chg.refl _ _) (fun _ _ _ h k => h.trans k (fun _ h => .inl h)) [[], [0], [1], [2], [3], [4], [4, 5], [4, 6], [7], [8], [8, 9], [8], [8], [8, 11, 12], [8, 13], [8, 10, 14], [8, 15]] rfl (by kernel_rfl) (by kernel_rfl) (Chg.refl _ _).drew ?_ ?_
              · trivial
              iterate 3 ((with_reducible apply Ch.Walk.eq); (case hd => rfl); (case hi => rfl); case h => (intro w2 hw2 N hN; simp only [Ch.depsOf, List.filterMap_nil, List.filterMap_cons, List.getElem?_toArray, List.getElem?_cons_zero, List.getElem?_cons_succ, Option.bind_some, List.nil_append, List.cons_append, Ch.Ob]; go_simp; (try go_bits); with_reducible exact hN _ (Chg.refl _ _) (fun _ h => h)))
              ((with_reducible apply Ch.Walk.eq); (case hd => rfl); (case hi => rfl); case h => (intro w2 hw2 N hN; (have hc := hw2.cell c1 (fun h => h)); simp only [Ch.depsOf, List.filterMap_nil, List.filterMap_cons, List.getElem?_toArray, List.getElem?_cons_zero, List.getElem?_cons_succ, Option.bind_some, List.nil_append, List.cons_append, Ch.Ob]; go_simp; (try go_bits); with_reducible exact hN _ (Chg.refl _ _) (fun _ h => h)))
              iterate 6 ((with_reducible apply Ch.Walk.eq); (case hd => rfl); (case hi => rfl); case h => (intro w2 hw2 N hN; simp only [Ch.depsOf, List.filterMap_nil, List.filterMap_cons, List.getElem?_toArray, List.getElem?_cons_zero, List.getElem?_cons_succ, Option.bind_some, List.nil_append, List.cons_append, Ch.Ob]; go_simp; (try go_bits); with_reducible exact hN _ (Chg.refl _ _) (fun _ h => h)))
              ((with_reducible apply Ch.Walk.eq); (case hd => rfl); (case hi => rfl); case h => (intro w2 hw2 N hN; (have hcv := conv_bytes (dst := 9) Tryd.underlying25 Tryd.underlying5 Tryd.underlying9 (hw2.bytesAt HUB.out (fun _ _ h => h)) uc); simp only [Ch.depsOf, List.filterMap_nil, List.filterMap_cons, List.getElem?_toArray, List.getElem?_cons_zero, List.getElem?_cons_succ, Option.bind_some, List.nil_append, List.cons_append, Ch.Ob]; go_simp; (try go_bits); with_reducible exact hN _ (Chg.refl _ _) (fun _ h => h)))
              iterate 3 ((with_reducible apply Ch.Walk.eq); (case hd => rfl); (case hi => rfl); case h => (intro w2 hw2 N hN; simp only [Ch.depsOf, List.filterMap_nil, List.filterMap_cons, List.getElem?_toArray, List.getElem?_cons_zero, List.getElem?_cons_succ, Option.bind_some, List.nil_append, List.cons_append, Ch.Ob]; go_simp; (try go_bits); with_reducible exact hN _ (Chg.refl _ _) (fun _ h => h)))
              ((with_reducible apply Ch.Walk.eq); (case hd => rfl); (case hi => rfl); case h => (intro w2 hw2 N hN; (have hcv := conv_bytes (dst := 9) Tryd.underlying25 Tryd.underlying5 Tryd.underlying9 (hw2.bytesAt HBT8.out (fun _ _ h => h)) cap; rw [hlt8] at hcv); simp only [Ch.depsOf, List.filterMap_nil, List.filterMap_cons, List.getElem?_toArray, List.getElem?_cons_zero, List.getElem?_cons_succ, Option.bind_some, List.nil_append, List.cons_append, Ch.Ob]; go_simp; (try go_bits); with_reducible exact hN _ (Chg.refl _ _) (fun _ h => h)))
              iterate 2 ((with_reducible apply Ch.Walk.eq); (case hd => rfl); (case hi => rfl); case h => (intro w2 hw2 N hN; simp only [Ch.depsOf, List.filterMap_nil, List.filterMap_cons, List.getElem?_toArray, List.getElem?_cons_zero, List.getElem?_cons_succ, Option.bind_some, List.nil_append, List.cons_append, Ch.Ob]; go_simp; (try go_bits); with_reducible exact hN _ (Chg.refl _ _) (fun _ h => h)))
              intro w4 hw4
              simp only [List.nil_append, List.cons_append, Ch.Fin, List.map_cons, List.map_nil, List.getD_cons_zero, List.getD_cons_succ]
              go_simp
              have hz4 := hbz.chg hw4 (fun h => h)
              have hch4 := hch.trans hw4 (fun _ h => .inl h)
              have z0 := hz4.cell (j := 0) rfl
              have y0 := hz4.free 0
              have z1 := hz4.cell (j := 1) rfl
              have y1 := hz4.free 1
              have z2 := hz4.cell (j := 2) rfl
              have y2 := hz4.free 2
              have z3 := hz4.cell (j := 3) rfl
              have y3 := hz4.free 3
              have z4 := hz4.cell (j := 4) rfl
              have y4 := hz4.free 4
              have z5 := hz4.cell (j := 5) rfl
              have y5 := hz4.free 5
              have z6 := hz4.cell (j := 6) rfl
              have y6 := hz4.free 6
              have z7 := hz4.cell (j := 7) rfl
              have y7 := hz4.free 7
              have z8 := hz4.cell (j := 8) rfl
              have y8 := hz4.free 8
              have z9 := hz4.cell (j := 9) rfl
              have y9 := hz4.free 9
              have z10 := hz4.cell (j := 10) rfl
              have y10 := hz4.free 10
              have z11 := hz4.cell (j := 11) rfl
              have y11 := hz4.free 11
              have z12 := hz4.cell (j := 12) rfl
              have y12 := hz4.free 12
              go_wp2_with fail
              refine bodyPost_ret (v := .tuple #[.agg #[.int .i64 0, .int .i64 0, .string ⟨#[]⟩, .int .i64 0, .int .i64 0, .int .i64 0, .int .i64 0, .int .i64 0, .int .i64 0, .int .i64 0, .bool false, .bool false, .slice none 0 0], .int .i64 0, .int .i64 3]) (by simp [results, Tryd.results14, go_sem, z0, z1, z2, z3, z4, z5, z6, z7, z8, z9, z10, z11, z12]) rfl (HP _ _ ⟨?_, .inl ⟨by rw [HX.out]; simp, by rw [HX.out]; rfl⟩⟩)
              iterate 13 (refine Chg.setCell ?_ (.inr (Nat.le_refl _)) _)
              exact hch4
          · have HX : Hid (refAskedErr l = 3) := by unfold Hid; rw [HX2.out, if_pos (.inl rfl)]
            clear HX2
            go_upto_region 29 with fail
            refine Ch.wp_region_chain _ (Chg (Nil)) [] (fun _ _ => True) (by kernel_rfl) (fun _ => Chg.refl _ _) (fun _ _ _ h k => h.trans k (fun _ h => .inl h)) [[], [0], [1], [2], [3], [4], [4, 5], [4, 6], [7], [8], [8, 9], [8], [8], [8, 11, 12], [8, 13], [8, 10, 14], [8, 15]] rfl (by kernel_rfl) (by kernel_rfl) (Chg.refl _ _).drew ?_ ?_
            · trivial
            iterate 3 ((with_reducible apply Ch.Walk.eq); (case hd => rfl); (case hi => rfl); case h => (intro w2 hw2 N hN; simp only [Ch.depsOf, List.filterMap_nil, List.filterMap_cons, List.getElem?_toArray, List.getElem?_cons_zero, List.getElem?_cons_succ, Option.bind_some, List.nil_append, List.cons_append, Ch.Ob]; go_simp; (try go_bits); with_reducible exact hN _ (Chg.refl _ _) (fun _ h => h)))
            ((with_reducible apply Ch.Walk.eq); (case hd => rfl); (case hi => rfl); case h => (intro w2 hw2 N hN; (have hc := hw2.cell c1 (fun h => h)); simp only [Ch.depsOf, List.filterMap_nil, List.filterMap_cons, List.getElem?_toArray, List.getElem?_cons_zero, List.getElem?_cons_succ, Option.bind_some, List.nil_append, List.cons_append, Ch.Ob]; go_simp; (try go_bits); with_reducible exact hN _ (Chg.refl _ _) (fun _ h => h)))
            iterate 13 ((with_reducible apply Ch.Walk.eq); (case hd => rfl); (case hi => rfl); case h => (intro w2 hw2 N hN; simp only [Ch.depsOf, List.filterMap_nil, List.filterMap_cons, List.getElem?_toArray, List.getElem?_cons_zero, List.getElem?_cons_succ, Option.bind_some, List.nil_append, List.cons_append, Ch.Ob]; go_simp; (try go_bits); with_reducible exact hN _ (Chg.refl _ _) (fun _ h => h)))
            intro w4 hw4
            simp only [List.nil_append, List.cons_append, Ch.Fin, List.map_cons, List.map_nil, List.getD_cons_zero, List.getD_cons_succ]
            go_simp
            have hz4 := hbz.chg hw4 (fun h => h)
            have hch4 := hch.trans hw4 (fun _ h => .inl h)
            have z0 := hz4.cell (j := 0) rfl
            have y0 := hz4.free 0
            have z1 := hz4.cell (j := 1) rfl
            have y1 := hz4.free 1
            have z2 := hz4.cell (j := 2) rfl
            have y2 := hz4.free 2
            have z3 := hz4.cell (j := 3) rfl
            have y3 := hz4.free 3
            have z4 := hz4.cell (j := 4) rfl
            have y4 := hz4.free 4
            have z5 := hz4.cell (j := 5) rfl
            have y5 := hz4.free 5
            have z6 := hz4.cell (j := 6) rfl
            have y6 := hz4.free 6
            have z7 := hz4.cell (j := 7) rfl
            have y7 := hz4.free 7
            have z8 := hz4.cell (j := 8) rfl
            have y8 := hz4.free 8
            have z9 := hz4.cell (j := 9) rfl
            have y9 := hz4.free 9
            have z10 := hz4.cell (j := 10) rfl
            have y10 := hz4.free 10
            have z11 := hz4.cell (j := 11) rfl
            have y11 := hz4.free 11
            have z12 := hz4.cell (j := 12) rfl
            have y12 := hz4.free 12
            go_wp2_with fail
            refine bodyPost_ret (v := .tuple #[.agg #[.int .i64 0, .int .i64 0, .string ⟨#[]⟩, .int .i64 0, .int .i64 0, .int .i64 0, .int .i64 0, .int .i64 0, .int .i64 0, .int .i64 0, .bool false, .bool false, .slice none 0 0], .int .i64 0, .int .i64 3]) (by simp [results, Tryd.results14, go_sem, z0, z1, z2, z3, z4, z5, z6, z7, z8, z9, z10, z11, z12]) rfl (HP _ _ ⟨?_, .inl ⟨by rw [HX.out]; simp, by rw [HX.out]; rfl⟩⟩)
            iterate 13 (refine Chg.setCell ?_ (.inr (Nat.le_refl _)) _)
            exact hch4
end Go.Proofs.YtmklicodfiggnaaDoor
