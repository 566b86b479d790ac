/-
  The walk of the program's Asked.
-/
import Derived.Test.YtmklicodfiggnaaDoorAskedC
import Derived.Test.YtmklicodfiggnaaDoorSizeW
import Derived.Test.YtmklicodfiggnaaDoorAskW
import Derived.Test.YtmklicodfiggnaaDoorRecsRW
import Derived.Outline
import Derived.Deep.DeepCutAuto
import Derived.Deep.CutBlock
set_option linter.unusedSimpArgs false
namespace Go.Proofs.YtmklicodfiggnaaDoor
open Go.RowKit

/-- What an Asked leaves: p what was read, err what was wrong. -/
def AskedPost (bad : Nat → Value) (p : Rq) (err : Nat) (w : World) (l : List UInt8) (e : Ending) (w' : World) : Prop :=
  Chg Nil w w' ∧ ((err ≠ 0 ∧ e = .returned (.tuple #[.agg #[.int .i64 0, .int .i64 0, .string ⟨#[]⟩, .int .i64 0, .int .i64 0, .int .i64 0, .int .i64 0, .int .i64 0, .int .i64 0, .int .i64 0, .bool false, .bool false, .slice none 0 0], .int .i64 0, bad err])) ∨
    (err = 0 ∧ ∃ v, e = .returned (.tuple #[.agg (rqCells p v).toArray, .int .i64 ((fromB l + 4 : Nat) : Int), bad 0]) ∧ OwnR 99 w' v p.recs ∧ ∀ k, v.ownBlock = some k → w.heap.size ≤ k))
theorem wsize_fit (a : Option Addr) (l : List UInt8) (cap : Nat) (w : World) (hl : l.length ≤ maxLen) (hb : BytesAt w a l) :
    Calls Tryd.prog 39 #[.slice a l.length cap] w fun e w' => Chg Nil w w' ∧ ((sizeErr l ≠ 0 ∧ e = .returned (.tuple #[.int .i64 0, .iface 26 (.int .i64 (sizeErr l : Nat))])) ∨ (sizeErr l = 0 ∧ e = .returned (.tuple #[.int .i64 ((fromB l + 4 : Nat) : Int), .nilIface]))) := by
  refine (wsize_any a l cap w hl hb).mono ?_
  rintro e w' ⟨hc, ⟨h, rfl⟩ | ⟨h, rfl⟩⟩
  · exact ⟨hc, .inl ⟨h, by unfold errV; rw [if_neg h]⟩⟩
  · exact ⟨hc, .inr ⟨h, rfl⟩⟩

set_option maxHeartbeats 4000000 in
set_option maxRecDepth 100000 in
theorem wasked_any (a : Option Addr) (l : List UInt8) (cap : Nat) (w : World) (hcap : l.length ≤ cap) (hl : cap ≤ maxLen) (hb : BytesAt w a l) :
    Calls Tryd.prog 15 #[.slice a l.length cap] w (AskedPost (errV 26) (chainQ (bodyQ l)).1 (askedErr l) w l) := by
  have HBW : Hid (∀ y, a = some y → 0 < l.length → y.block < w.heap.size) := by
    intro y hy h0
    obtain ⟨b, off, rfl, hc⟩ := hb 0 h0
    cases hy
    exact World.block_lt_of_cell? _ _ hc
  have hal0 := (Chg.refl Nil w).alloc (.cells #[.int .i64 0, .int .i64 0, .string ⟨#[]⟩, .int .i64 0, .int .i64 0, .int .i64 0, .int .i64 0, .int .i64 0, .int .i64 0, .int .i64 0, .bool false, .bool false, .slice none 0 0] 24)
  have hz0 := Box.new w [.int .i64 0, .int .i64 0, .string ⟨#[]⟩, .int .i64 0, .int .i64 0, .int .i64 0, .int .i64 0, .int .i64 0, .int .i64 0, .int .i64 0, .bool false, .bool false, .slice none 0 0] 24
  have hb0 := hal0.bytesAt hb (fun _ _ h => h)
  have HSZ := Lib.hid (wsize_fit a l cap _ (Nat.le_trans hcap hl) hb0)
  have HB0 := Lib.hid hb0
  clear hb hb0
  go_enter Tryd.func15, Tryd.ntmps15
  go_wp2_with fail
  refine HSZ.out.mono ?_
  rintro e w1 ⟨hc1, hpost⟩
  have hch1 := hal0.trans hc1 (fun _ h => h.elim)
  have hz1 := hz0.chg hc1 (fun h => h)
  have hb1 := hc1.bytesAt HB0.out (fun _ _ h => h)
  have HB1 := Lib.hid hb1
  clear HSZ hz0 hal0 HB0 hb1 hc1
  rcases hpost with ⟨hne, rfl⟩ | ⟨h0, rfl⟩
  · have HE := Lib.hid (asked_size hne)
    have HNE := Lib.hid hne
    clear hne
    generalize sizeErr l = er at *
    have z0 := hz1.cell (j := 0) rfl
    have y0 := hz1.free 0
    have z1 := hz1.cell (j := 1) rfl
    have y1 := hz1.free 1
    have z2 := hz1.cell (j := 2) rfl
    have y2 := hz1.free 2
    have z3 := hz1.cell (j := 3) rfl
    have y3 := hz1.free 3
    have z4 := hz1.cell (j := 4) rfl
    have y4 := hz1.free 4
    have z5 := hz1.cell (j := 5) rfl
    have y5 := hz1.free 5
    have z6 := hz1.cell (j := 6) rfl
    have y6 := hz1.free 6
    have z7 := hz1.cell (j := 7) rfl
    have y7 := hz1.free 7
    have z8 := hz1.cell (j := 8) rfl
    have y8 := hz1.free 8
    have z9 := hz1.cell (j := 9) rfl
    have y9 := hz1.free 9
    have z10 := hz1.cell (j := 10) rfl
    have y10 := hz1.free 10
    have z11 := hz1.cell (j := 11) rfl
    have y11 := hz1.free 11
    have z12 := hz1.cell (j := 12) rfl
    have y12 := hz1.free 12

    go_wp2_with fail
    refine bodyPost_ret (v := .tuple #[.agg #[.int .i64 0, .int .i64 0, .string ⟨#[]⟩, .int .i64 0, .int .i64 0, .int .i64 0, .int .i64 0, .int .i64 0, .int .i64 0, .int .i64 0, .bool false, .bool false, .slice none 0 0], .int .i64 0, .iface 26 (.int .i64 (er : Nat))]) (by simp [results, Tryd.results15, go_sem, z0, z1, z2, z3, z4, z5, z6, z7, z8, z9, z10, z11, z12]) rfl ⟨?_, .inl ⟨by rw [HE.out]; exact HNE.out, by rw [HE.out]; unfold errV; rw [if_neg HNE.out]⟩⟩
    iterate 13 (refine Chg.setCell ?_ (.inr (Nat.le_refl _)) _)
    exact hch1
  · have HIN := Lib.hid (asked_in h0)
    have HBL := Lib.hid (bodyQ_len h0)
    obtain ⟨g1, g2, g3, g4⟩ := sizeErr_good h0
    have HN := Lib.hid (show ((fromB l + 4 : Nat) : Int) = ((fromB l + 4 : Nat) : Int) from rfl)
    have HBB : Hid (bodyQ l = (l.take (fromB l + 4)).drop 4) := rfl
    clear h0
    have HP : ∀ e w', (Chg Nil w w' ∧ ((askedErr l ≠ 0 ∧ e = .returned (.tuple #[.agg #[.int .i64 0, .int .i64 0, .string ⟨#[]⟩, .int .i64 0, .int .i64 0, .int .i64 0, .int .i64 0, .int .i64 0, .int .i64 0, .int .i64 0, .bool false, .bool false, .slice none 0 0], .int .i64 0, errV 26 (askedErr l)])) ∨
    (askedErr l = 0 ∧ ∃ v, e = .returned (.tuple #[.agg (rqCells (chainQ (bodyQ l)).1 v).toArray, .int .i64 ((fromB l + 4 : Nat) : Int), errV 26 0]) ∧ OwnR 99 w' v (chainQ (bodyQ l)).1.recs ∧ ∀ k, v.ownBlock = some k → w.heap.size ≤ k))) → AskedPost (errV 26) (chainQ (bodyQ l)).1 (askedErr l) w l e w' := fun _ _ h => h
    generalize hn : fromB l + 4 = n at *
    have hbn : (bodyQ l).length = n - 4 := by rw [HBL.out]; omega
    have hn4 : 4 < n := by omega
    have hnl : n ≤ l.length := by omega
    clear hn g2 g3 g4 HBL HN
    obtain ⟨b, off, rfl⟩ := HB1.out.some (by omega)
    unfold maxLen at hl
    have hc4 : ¬ cap = 4 := by omega
    have hnc : n ≤ cap := by omega
    have h4n : (4 : Int) ≤ n := by omega
    have hby : BytesAt w1 (some ⟨b, off + 4, none⟩) (bodyQ l) := by rw [HBB.out]; exact (HB1.out.take n).drop 4
    have hbk : b < w1.heap.size := by
      obtain ⟨b', off', hbb, hcc⟩ := hby 0 (by omega)
      cases hbb
      exact World.block_lt_of_cell? _ _ hcc
    go_upto_region 5 with fail
    have hgb := Box.new w1 [.slice (some ⟨b, off + 4, none⟩) (n - 4) (cap - 4), .bool false] 88
    have hga := (Chg.refl Nil w1).alloc (.cells #[.slice (some ⟨b, off + 4, none⟩) (n - 4) (cap - 4), .bool false] 88)
    have hrd : RdS (w1.alloc (.cells #[.slice (some ⟨b, off + 4, none⟩) (n - 4) (cap - 4), .bool false] 88)) w1.heap.size b (bodyQ l, false) := ⟨off + 4, cap - 4, by omega, by rw [hbn]; omega, by unfold maxLen; omega, by rw [hbn]; exact hgb.cell (j := 0) rfl, hgb.cell (j := 1) rfl, hgb.free 0, hgb.free 1, hga.bytesAt hby (fun _ _ h => h)⟩
    have hz2 := hz1.chg hga (fun h => h)
    have hch2 := hch1.trans hga (fun _ h => .inl h)
    have hzg : w.heap.size < w1.heap.size := (Array.getElem?_eq_some_iff.1 hz1).1
    have hbw := HBW.out _ rfl (by omega)
    simp only at hbw
    have hgw : w1.heap.size < (w1.alloc (.cells #[.slice (some ⟨b, off + 4, none⟩) (n - 4) (cap - 4), .bool false] 88)).heap.size := by simp
    have HRD := Lib.hid hrd
    clear hgb hga hrd hby hz1 hch1 HB1 hbk HBB hbn hc4 hnc h4n
    go_wp2_with fail
    generalize (w1.alloc (.cells #[.slice (some ⟨b, off + 4, none⟩) (n - 4) (cap - 4), .bool false] 88)) = w2 at *
    generalize w1.heap.size = g at *
    refine (rnum_st g b (bodyQ l, false) w2 HRD.out).mono ?_
    rintro e w3 ⟨rfl, hc3, hr3⟩
    have HCH : Hid (chainQ (bodyQ l) = restS wText (numS (bodyQ l, false)).1 { rq0 (numS (bodyQ l, false)).1 (numS (numS (bodyQ l, false)).2).1 (topS wText (numS (bodyQ l, false)).1 (kindS (numS (bodyQ l, false)).1 (numS (numS (bodyQ l, false)).2).2)).1 with part := (partS (numS (bodyQ l, false)).1 (topS wText (numS (bodyQ l, false)).1 (kindS (numS (bodyQ l, false)).1 (numS (numS (bodyQ l, false)).2).2)).2).1 } (partS (numS (bodyQ l, false)).1 (topS wText (numS (bodyQ l, false)).1 (kindS (numS (bodyQ l, false)).1 (numS (numS (bodyQ l, false)).2).2)).2).2) := rfl
    generalize chainQ (bodyQ l) = F at *
    generalize (numS (bodyQ l, false)).2 = s1 at *
    generalize (numS (bodyQ l, false)).1 = k at *
    have HR3 := Lib.hid hr3
    clear HRD hr3
    go_wp2_with fail
    refine (rnum_st g b s1 w3 HR3.out).mono ?_
    rintro e w4 ⟨rfl, hc4, hr4⟩
    generalize (numS s1).2 = s2 at *
    generalize (numS s1).1 = c at *
    have HR4 := Lib.hid hr4
    clear hr4
    go_upto_region 6 with fail
    have hxb := Box.new w4 [.int .i64 (k : Nat), .int .i64 (c : Nat), .string ⟨#[]⟩, .int .i64 0, .int .i64 0, .int .i64 0, .int .i64 0, .int .i64 0, .int .i64 0, .int .i64 0, .bool false, .bool false, .slice none 0 0] 24
    have hxa := (Chg.refl Nil w4).alloc (.cells #[.int .i64 (k : Nat), .int .i64 (c : Nat), .string ⟨#[]⟩, .int .i64 0, .int .i64 0, .int .i64 0, .int .i64 0, .int .i64 0, .int .i64 0, .int .i64 0, .bool false, .bool false, .slice none 0 0] 24)
    have hz4 := ((hz2.chg hc3 (by omega)).chg hc4 (by omega)).chg hxa (fun h => h)
    have hch4 := ((hch2.trans hc3 (fun i hi => .inr (by omega))).trans hc4 (fun i hi => .inr (by omega))).trans hxa (fun _ h => .inl h)
    have HR5 := Lib.hid (Rg.mk (HR4.out.chg hxa (fun h => h) (fun h => h)) hxb hz4 hch4)
    have hgx : g < w4.heap.size := by have := hc3.size; have := hc4.size; omega
    clear hxb hxa hz4 hch4 hz2 hch2 hc3 hc4 HR3 HR4 hgw
    generalize (w4.alloc (.cells #[.int .i64 (k : Nat), .int .i64 (c : Nat), .string ⟨#[]⟩, .int .i64 0, .int .i64 0, .int .i64 0, .int .i64 0, .int .i64 0, .int .i64 0, .int .i64 0, .bool false, .bool false, .slice none 0 0] 24)) = w5 at *
    generalize w4.heap.size = x at *
    have d1 := HR5.out.rd.b1
    have d2 := HR5.out.rd.y1
    have q0 := HR5.out.bx.cell (j := 0) rfl
    go_cut [8] (fun u8 wx => u8 = .pointer (some ⟨x, 0, none⟩) ∧ Rg 24 [.int .i64 0, .int .i64 0, .string ⟨#[]⟩, .int .i64 0, .int .i64 0, .int .i64 0, .int .i64 0, .int .i64 0, .int .i64 0, .int .i64 0, .bool false, .bool false, .slice none 0 0] w g b x [.int .i64 (k : Nat), .int .i64 (c : Nat), .string ⟨#[]⟩, .int .i64 0, .int .i64 0, .int .i64 0, .int .i64 0, .int .i64 0, .int .i64 0, .int .i64 0, .bool false, .bool false, .slice none 0 0] (kindS k s2) wx)
    case first =>
      have HKD : Hid (decide (1 ≤ (k : Int) ∧ (k : Int) ≤ 7) = okK k) := by unfold Hid okK; congr 1; exact propext (by omega)
      have HKS : Hid (kindS k s2 = (s2.1, s2.2 || !okK k)) := rfl
      have hkd := kind_any (k : Int) w5
      rw [HKD.out] at hkd
      have HK := Lib.hid hkd
      generalize okK k = ok at *
      clear hkd HKD
      obtain ⟨s2l, s2b⟩ := s2
      simp only at d1 d2
      cases s2b
      · go_wp2_with fail
        refine HK.out.mono ?_
        rintro e _ ⟨rfl, rfl⟩
        go_wp2_with fail
        go_meet
        case rel => exact ⟨rfl, by rw [HKS.out]; exact HR5.out.mark hzg hgx _⟩
      · go_wp2_with fail
        go_meet
        case rel => exact ⟨rfl, by rw [HKS.out]; exact HR5.out.mark hzg hgx _⟩
    case rest =>
      obtain ⟨rfl, hR6⟩ := hcut
      have HR6 := Lib.hid hR6
      have q0 := HR6.out.bx.cell (j := 0) rfl
      clear hR6 HR5 d1 d2
      generalize kindS k s2 = s3 at *
      go_upto_if 43 with fail
      go_cut [8] (fun u8 wx => u8 = .pointer (some ⟨x, 0, none⟩) ∧ Rg 24 [.int .i64 0, .int .i64 0, .string ⟨#[]⟩, .int .i64 0, .int .i64 0, .int .i64 0, .int .i64 0, .int .i64 0, .int .i64 0, .int .i64 0, .bool false, .bool false, .slice none 0 0] w g b x [.int .i64 (k : Nat), .int .i64 (c : Nat), .string ⟨(topS wText k s3).1.toArray⟩, .int .i64 0, .int .i64 0, .int .i64 0, .int .i64 0, .int .i64 0, .int .i64 0, .int .i64 0, .bool false, .bool false, .slice none 0 0] (topS wText k s3).2 wx)
      case first =>
        by_cases h7 : k = 7
        · have HT : Hid (topS wText k s3 = ([], s3)) := by unfold Hid topS; rw [if_pos h7]
          have h7' : (k : Int) = 7 := by omega
          clear h7
          go_wp2_with fail
          go_meet
          case rel => exact ⟨rfl, by rw [HT.out]; exact HR6.out⟩
        · have HT : Hid (topS wText k s3 = wText 40 s3) := by unfold Hid topS; rw [if_neg h7]
          have h7' : ¬ (k : Int) = 7 := by omega
          clear h7
          have hwc : ∃ wd, wd = wc := ⟨_, rfl⟩
          go_wp2_with fail
          refine (rtext_st 40 g b s3 _ HR6.out.rd).mono ?_
          rintro e w7 ⟨rfl, hc7, hr7⟩
          have hx7 := HR6.out.go hzg hgx hc7 hr7
          have HX7 := Lib.hid hx7
          clear hc7 hr7 q0
          have q2 := hx7.bx.cell (j := 2) rfl
          have y2 := hx7.bx.free 2
          clear hx7
          go_wp2_with fail
          go_meet
          case rel => exact ⟨rfl, by rw [HT.out]; exact HX7.out.set hzg hgx hbw 2 _⟩
      case rest =>
        obtain ⟨rfl, hR7⟩ := hcut
        have HR7 := Lib.hid hR7
        clear hR7 HR6 q0
        have q0 := HR7.out.bx.cell (j := 0) rfl
        generalize (topS wText k s3).2 = s4 at *
        generalize (topS wText k s3).1 = t at *
        go_upto_if 49 with fail
        go_cut [8] (fun u8 wx => u8 = .pointer (some ⟨x, 0, none⟩) ∧ Rg 24 [.int .i64 0, .int .i64 0, .string ⟨#[]⟩, .int .i64 0, .int .i64 0, .int .i64 0, .int .i64 0, .int .i64 0, .int .i64 0, .int .i64 0, .bool false, .bool false, .slice none 0 0] w g b x [.int .i64 (k : Nat), .int .i64 (c : Nat), .string ⟨t.toArray⟩, .int .i64 ((partS k s4).1 : Nat), .int .i64 0, .int .i64 0, .int .i64 0, .int .i64 0, .int .i64 0, .int .i64 0, .bool false, .bool false, .slice none 0 0] (partS k s4).2 wx)
        case first =>
          by_cases h7 : k ≤ 4
          · have HT : Hid (partS k s4 = numS s4) := by unfold Hid partS; rw [if_pos h7]
            have h7' : (k : Int) ≤ 4 := by omega
            clear h7
            go_wp2_with fail
            refine (rnum_st g b s4 _ HR7.out.rd).mono ?_
            rintro e w7 ⟨rfl, hc7, hr7⟩
            have hx7 := HR7.out.go hzg hgx hc7 hr7
            have HX7 := Lib.hid hx7
            clear hc7 hr7 q0
            have q3 := hx7.bx.cell (j := 3) rfl
            have y3 := hx7.bx.free 3
            clear hx7
            go_wp2_with fail
            go_meet
            case rel => exact ⟨rfl, by rw [HT.out]; exact HX7.out.set hzg hgx hbw 3 _⟩
          · have HT : Hid (partS k s4 = (0, s4)) := by unfold Hid partS; rw [if_neg h7]
            have h7' : ¬ (k : Int) ≤ 4 := by omega
            clear h7
            go_wp2_with fail
            go_meet
            case rel => exact ⟨rfl, by rw [HT.out]; exact HR7.out⟩
        case rest =>
          obtain ⟨rfl, hR8⟩ := hcut
          have HR8 := Lib.hid hR8
          clear hR8 HR7 q0
          have q0 := HR8.out.bx.cell (j := 0) rfl
          generalize (partS k s4).2 = s5 at *
          generalize (partS k s4).1 = p at *
          go_upto_block 0 with fail
          go_cut [8] (fun u8 wx => u8 = .pointer (some ⟨x, 0, none⟩) ∧ ∃ v, Rg 24 [.int .i64 0, .int .i64 0, .string ⟨#[]⟩, .int .i64 0, .int .i64 0, .int .i64 0, .int .i64 0, .int .i64 0, .int .i64 0, .int .i64 0, .bool false, .bool false, .slice none 0 0] w g b x (rqCells (restS wText k { rq0 k c t with part := p } s5).1 v) (restS wText k { rq0 k c t with part := p } s5).2 wx ∧ OwnR 99 wx v (restS wText k { rq0 k c t with part := p } s5).1.recs ∧ ∀ i, v.ownBlock = some i → w.heap.size ≤ i ∧ x < i ∧ g < i)
          case first =>
            by_cases h1 : k = 1
            · subst h1
              clear q0
              go_wp2_with fail
              refine (rtruth_st g b s5 _ HR8.out.rd).mono ?_
              rintro e wq0 ⟨rfl, hc0, hr0⟩
              have HQ0 := Lib.hid (HR8.out.go hzg hgx hc0 hr0)
              clear hc0 hr0
              have q10 := HQ0.out.bx.cell (j := 10) rfl
              have y10 := HQ0.out.bx.free 10
              go_wp2_with fail
              have HS1 := Lib.hid (HQ0.out.set hzg hgx hbw 10 (.bool (truthS s5).1))
              clear q10 y10
              generalize (wq0.setCell ⟨x, 10, none⟩ (.bool (truthS s5).1)) = ws1 at *
              refine (rrecs_st false g b (truthS s5).2 ws1 (by have := HS1.out.lt; omega) HS1.out.rd).mono ?_
              rintro e wq1 ⟨v, rfl, hc1, hr1, hown, hfr⟩
              obtain ⟨vx, vn, vc, rfl⟩ := ownsRow_form hown
              have hfx : ∀ i, (Value.slice vx vn vc).ownBlock = some i → w.heap.size ≤ i ∧ x < i ∧ g < i := fun i hi => by have := hfr i hi; have := HS1.out.lt; omega
              have HOW := Lib.hid hown
              clear hown hfr
              have HQ1 := Lib.hid (HS1.out.go hzg hgx hc1 hr1)
              clear hc1 hr1
              have q12 := HQ1.out.bx.cell (j := 12) rfl
              have y12 := HQ1.out.bx.free 12
              go_wp2_with fail
              go_meet
              case rel => exact ⟨rfl, .slice vx vn vc, (HQ1.out.set hzg hgx hbw 12 (.slice vx vn vc)), ownsRow_chg HOW.out ((Chg.refl (fun k => k = x) _).setCell (.inl rfl) _) (fun i hi e => by have := hfx i hi; omega), hfx⟩
            · have h1' : ¬ (k : Int) = 1 := by omega
              by_cases h2 : k = 2
              · subst h2
                clear q0
                go_wp2_with fail
                refine (rnum_st g b s5 _ HR8.out.rd).mono ?_
                rintro e wq0 ⟨rfl, hc0, hr0⟩
                have HQ0 := Lib.hid (HR8.out.go hzg hgx hc0 hr0)
                clear hc0 hr0
                go_wp2_with fail
                refine (rnum_st g b (numS s5).2 wq0 HQ0.out.rd).mono ?_
                rintro e wq1 ⟨rfl, hc1, hr1⟩
                have HQ1 := Lib.hid (HQ0.out.go hzg hgx hc1 hr1)
                clear hc1 hr1
                go_wp2_with fail
                refine (rnum_st g b (numS (numS s5).2).2 wq1 HQ1.out.rd).mono ?_
                rintro e wq2 ⟨rfl, hc2, hr2⟩
                have HQ2 := Lib.hid (HQ1.out.go hzg hgx hc2 hr2)
                clear hc2 hr2
                go_wp2_with fail
                refine (rnum_st g b (numS (numS (numS s5).2).2).2 wq2 HQ2.out.rd).mono ?_
                rintro e wq3 ⟨rfl, hc3, hr3⟩
                have HQ3 := Lib.hid (HQ2.out.go hzg hgx hc3 hr3)
                clear hc3 hr3
                have q4 := HQ3.out.bx.cell (j := 4) rfl
                have y4 := HQ3.out.bx.free 4
                have q5 := HQ3.out.bx.cell (j := 5) rfl
                have y5 := HQ3.out.bx.free 5
                have q6 := HQ3.out.bx.cell (j := 6) rfl
                have y6 := HQ3.out.bx.free 6
                have q7 := HQ3.out.bx.cell (j := 7) rfl
                have y7 := HQ3.out.bx.free 7
                go_wp2_with fail
                go_meet
                case rel => exact ⟨rfl, .slice none 0 0, ((((HQ3.out.set hzg hgx hbw 4 (.int .i64 ((numS s5).1 : Nat))).set hzg hgx hbw 5 (.int .i64 ((numS (numS s5).2).1 : Nat))).set hzg hgx hbw 6 (.int .i64 ((numS (numS (numS s5).2).2).1 : Nat))).set hzg hgx hbw 7 (.int .i64 ((numS (numS (numS (numS s5).2).2).2).1 : Nat))), OwnR.nil _ _, by simp [Value.ownBlock]⟩
              · have h2' : ¬ (k : Int) = 2 := by omega
                by_cases h3 : k = 3
                · subst h3
                  clear q0
                  go_wp2_with fail
                  refine (rnum_st g b s5 _ HR8.out.rd).mono ?_
                  rintro e wq0 ⟨rfl, hc0, hr0⟩
                  have HQ0 := Lib.hid (HR8.out.go hzg hgx hc0 hr0)
                  clear hc0 hr0
                  have q8 := HQ0.out.bx.cell (j := 8) rfl
                  have y8 := HQ0.out.bx.free 8
                  go_wp2_with fail
                  go_meet
                  case rel => exact ⟨rfl, .slice none 0 0, (HQ0.out.set hzg hgx hbw 8 (.int .i64 ((numS s5).1 : Nat))), OwnR.nil _ _, by simp [Value.ownBlock]⟩
                · have h3' : ¬ (k : Int) = 3 := by omega
                  by_cases h4 : k = 4
                  · subst h4
                    clear q0
                    go_wp2_with fail
                    refine (rnum_st g b s5 _ HR8.out.rd).mono ?_
                    rintro e wq0 ⟨rfl, hc0, hr0⟩
                    have HQ0 := Lib.hid (HR8.out.go hzg hgx hc0 hr0)
                    clear hc0 hr0
                    have q4 := HQ0.out.bx.cell (j := 4) rfl
                    have y4 := HQ0.out.bx.free 4
                    go_wp2_with fail
                    go_meet
                    case rel => exact ⟨rfl, .slice none 0 0, (HQ0.out.set hzg hgx hbw 4 (.int .i64 ((numS s5).1 : Nat))), OwnR.nil _ _, by simp [Value.ownBlock]⟩
                  · have h4' : ¬ (k : Int) = 4 := by omega
                    by_cases h5 : k = 5
                    · subst h5
                      clear q0
                      go_wp2_with fail
                      refine (rnum_st g b s5 _ HR8.out.rd).mono ?_
                      rintro e wq0 ⟨rfl, hc0, hr0⟩
                      have HQ0 := Lib.hid (HR8.out.go hzg hgx hc0 hr0)
                      clear hc0 hr0
                      go_wp2_with fail
                      refine (rtruth_st g b (numS s5).2 wq0 HQ0.out.rd).mono ?_
                      rintro e wq1 ⟨rfl, hc1, hr1⟩
                      have HQ1 := Lib.hid (HQ0.out.go hzg hgx hc1 hr1)
                      clear hc1 hr1
                      have q9 := HQ1.out.bx.cell (j := 9) rfl
                      have y9 := HQ1.out.bx.free 9
                      have q11 := HQ1.out.bx.cell (j := 11) rfl
                      have y11 := HQ1.out.bx.free 11
                      go_wp2_with fail
                      go_meet
                      case rel => exact ⟨rfl, .slice none 0 0, ((HQ1.out.set hzg hgx hbw 9 (.int .i64 ((numS s5).1 : Nat))).set hzg hgx hbw 11 (.bool (truthS (numS s5).2).1)), OwnR.nil _ _, by simp [Value.ownBlock]⟩
                    · have h5' : ¬ (k : Int) = 5 := by omega
                      have HT : Hid (restS wText k { rq0 k c t with part := p } s5 = ({ rq0 k c t with part := p }, s5)) := by unfold Hid restS; rw [if_neg h1, if_neg h2, if_neg h3, if_neg h4, if_neg h5]
                      clear h1 h2 h3 h4 h5
                      go_wp2_with fail
                      go_meet
                      case rel => exact ⟨rfl, .slice none 0 0, by rw [HT.out]; exact HR8.out, by rw [HT.out]; exact OwnR.nil _ _, by simp [Value.ownBlock]⟩
          case rest =>
            obtain ⟨rfl, v, hR9, hown, hfr⟩ := hcut
            obtain ⟨vx, vn, vc, rfl⟩ := ownsRow_form hown
            have hF := HCH.out
            rw [← hF] at hR9 hown
            clear hF HCH
            obtain ⟨⟨f0, f1, f2, f3, f4, f5, f6, f7, f8, f9, f10, f11, f12⟩, sl, sb⟩ := F
            simp only at HIN hR9 hown HP
            obtain ⟨⟨roff, rcap, hrd⟩, hbx, hbz, hch⟩ := hR9
            have c0 := hrd.c0
            have c1 := hrd.c1
            have HOW := Lib.hid hown
            clear hrd hown q0 HR8
            have z0 := hbz.cell (j := 0) rfl
            have y0 := hbz.free 0
            have z1 := hbz.cell (j := 1) rfl
            have y1 := hbz.free 1
            have z2 := hbz.cell (j := 2) rfl
            have y2 := hbz.free 2
            have z3 := hbz.cell (j := 3) rfl
            have y3 := hbz.free 3
            have z4 := hbz.cell (j := 4) rfl
            have y4 := hbz.free 4
            have z5 := hbz.cell (j := 5) rfl
            have y5 := hbz.free 5
            have z6 := hbz.cell (j := 6) rfl
            have y6 := hbz.free 6
            have z7 := hbz.cell (j := 7) rfl
            have y7 := hbz.free 7
            have z8 := hbz.cell (j := 8) rfl
            have y8 := hbz.free 8
            have z9 := hbz.cell (j := 9) rfl
            have y9 := hbz.free 9
            have z10 := hbz.cell (j := 10) rfl
            have y10 := hbz.free 10
            have z11 := hbz.cell (j := 11) rfl
            have y11 := hbz.free 11
            have z12 := hbz.cell (j := 12) rfl
            have y12 := hbz.free 12
            cases sb
            · by_cases hsl : sl = []
              · have HX : Hid (askedErr l = 0) := by unfold Hid; rw [HIN.out, if_pos ⟨rfl, hsl⟩]
                subst hsl
                simp only [List.length_nil] at c0
                have x0 := hbx.cell (j := 0) rfl
                have x1 := hbx.cell (j := 1) rfl
                have x2 := hbx.cell (j := 2) rfl
                have x3 := hbx.cell (j := 3) rfl
                have x4 := hbx.cell (j := 4) rfl
                have x5 := hbx.cell (j := 5) rfl
                have x6 := hbx.cell (j := 6) rfl
                have x7 := hbx.cell (j := 7) rfl
                have x8 := hbx.cell (j := 8) rfl
                have x9 := hbx.cell (j := 9) rfl
                have x10 := hbx.cell (j := 10) rfl
                have x11 := hbx.cell (j := 11) rfl
                have x12 := hbx.cell (j := 12) rfl
                go_wp2_with fail
                refine bodyPost_ret (v := .tuple #[.agg #[.int .i64 f0, .int .i64 f1, .string f2, .int .i64 f3, .int .i64 f4, .int .i64 f5, .int .i64 f6, .int .i64 f7, .int .i64 f8, .int .i64 f9, .bool f10, .bool f11, .slice vx vn vc], .int .i64 (n : Nat), .nilIface]) (by simp [results, Tryd.results15, go_sem, z0, z1, z2, z3, z4, z5, z6, z7, z8, z9, z10, z11, z12]) rfl (HP _ _ ⟨?_, .inr ⟨HX.out, .slice vx vn vc, rfl, ?_, ?_⟩⟩)
                · iterate 13 (refine Chg.setCell ?_ (.inr (Nat.le_refl _)) _)
                  exact hch
                · refine ownsRow_chg HOW.out (S := fun i => i = w.heap.size) ?_ (fun i hi e => by have := hfr i hi; omega)
                  iterate 13 (refine Chg.setCell (S := fun i => i = w.heap.size) ?_ (.inl rfl) _)
                  exact Chg.refl _ _
                · exact fun i hi => (hfr i hi).1
              · have HX : Hid (askedErr l = 3) := by unfold Hid; rw [HIN.out, if_neg (fun h => hsl h.2)]
                have hl1 : (0 : Int) < (sl.length : Int) := by have := List.length_pos_iff.2 hsl; omega
                generalize sl.length = sn at *
                go_wp2_with fail
                refine bodyPost_ret (v := .tuple #[.agg #[.int .i64 0, .int .i64 0, .string ⟨#[]⟩, .int .i64 0, .int .i64 0, .int .i64 0, .int .i64 0, .int .i64 0, .int .i64 0, .int .i64 0, .bool false, .bool false, .slice none 0 0], .int .i64 0, .iface 26 (.int .i64 3)]) (by simp [results, Tryd.results15, go_sem, z0, z1, z2, z3, z4, z5, z6, z7, z8, z9, z10, z11, z12]) rfl (HP _ _ ⟨?_, .inl ⟨by rw [HX.out]; simp, by rw [HX.out]; rfl⟩⟩)
                iterate 13 (refine Chg.setCell ?_ (.inr (Nat.le_refl _)) _)
                exact hch
            · have HX : Hid (askedErr l = 3) := by unfold Hid; rw [HIN.out, if_neg (fun h => by cases h.1)]
              go_wp2_with fail
              refine bodyPost_ret (v := .tuple #[.agg #[.int .i64 0, .int .i64 0, .string ⟨#[]⟩, .int .i64 0, .int .i64 0, .int .i64 0, .int .i64 0, .int .i64 0, .int .i64 0, .int .i64 0, .bool false, .bool false, .slice none 0 0], .int .i64 0, .iface 26 (.int .i64 3)]) (by simp [results, Tryd.results15, go_sem, z0, z1, z2, z3, z4, z5, z6, z7, z8, z9, z10, z11, z12]) rfl (HP _ _ ⟨?_, .inl ⟨by rw [HX.out]; simp, by rw [HX.out]; rfl⟩⟩)
              iterate 13 (refine Chg.setCell ?_ (.inr (Nat.le_refl _)) _)
              exact hch
end Go.Proofs.YtmklicodfiggnaaDoor
