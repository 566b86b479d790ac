/-
  The walk of the program's Told.
-/
import Derived.Test.YtmklicodfiggnaaDoorRansW
import Derived.Test.YtmklicodfiggnaaDoorAskedW
import Derived.Test.YtmklicodfiggnaaDoorTellW
import Derived.Outline
import Derived.Deep.DeepCutAuto
import Derived.Deep.CutBlock
set_option linter.unusedSimpArgs false
namespace Go.Proofs.YtmklicodfiggnaaDoor
open Go.RowKit

/-- What a Told leaves: p what was read, err what was wrong. -/
def ToldPost (bad : Nat → Value) (p : Ar) (err : Nat) (w : World) (l : List UInt8) (e : Ending) (w' : World) : Prop :=
  Chg Nil w w' ∧ ((err ≠ 0 ∧ e = .returned (.tuple #[.agg #[.int .i64 0, .int .i64 0, .int .i64 0, .int .i64 0, .int .i64 0, .int .i64 0, .bool false, .slice none 0 0, .slice none 0 0], .int .i64 0, bad err])) ∨
    (err = 0 ∧ ∃ v u, e = .returned (.tuple #[.agg (arCells p v u).toArray, .int .i64 ((fromB l + 4 : Nat) : Int), bad 0]) ∧ OwnR 99 w' v p.recs ∧ OwnT 74 w' u p.tops ∧ (∀ k, v.ownBlock = some k → w.heap.size ≤ k) ∧ ∀ k, u.ownBlock = some k → w.heap.size ≤ k))
theorem Rg.ans {w0 : World} {g b x : Nat} {k c e : Nat} {s : St} {w w' : World} {zs : List Value} {txt : Nat → St → List UInt8 × St} {cs : List Value} (h : Rg 37 zs w0 g b x cs s w) (h1 : w0.heap.size < g) (h2 : g < x) (hp : AnsPost txt g b x k c e s w w') :
    ∃ v u, Rg 37 zs w0 g b x (arCells (ansS txt k (ar0 k c e) s).1 v u) (ansS txt k (ar0 k c e) s).2 w' ∧ OwnR 99 w' v (ansS txt k (ar0 k c e) s).1.recs ∧ OwnT 74 w' u (ansS txt k (ar0 k c e) s).1.tops ∧ (∀ i, v.ownBlock = some i → x < i) ∧ ∀ i, u.ownBlock = some i → x < i := by
  obtain ⟨v, u, a1, a2, a3, a4, a5, a6, a7⟩ := hp
  have hx := h.lt
  exact ⟨v, u, ⟨a1, a2, h.bz.chg a7 (by omega), h.ch.trans a7 (fun i hi => .inr (by omega))⟩, a3, a4, fun i hi => by have := a5 i hi; omega, fun i hi => by have := a6 i hi; omega⟩

set_option maxHeartbeats 4000000 in
set_option maxRecDepth 100000 in
theorem wtold_any (a : Option Addr) (l : List UInt8) (cap : Nat) (w : World) (hcap : l.length ≤ cap) (hl : cap ≤ maxLen) (hb : BytesAt w a l) :
    Calls Tryd.prog 18 #[.slice a l.length cap] w (ToldPost (errV 26) (chainA (bodyQ l)).1 (toldErr l) w l) := by
  have HBW : Hid (∀ y, a = some y → 0 < l.length → y.block < w.heap.size) := by
    intro y hy h0
    obtain ⟨b, off, rfl, hc⟩ := hb 0 h0
    cases hy
    exact World.block_lt_of_cell? _ _ hc
  have hal0 := (Chg.refl Nil w).alloc (.cells #[.int .i64 0, .int .i64 0, .int .i64 0, .int .i64 0, .int .i64 0, .int .i64 0, .bool false, .slice none 0 0, .slice none 0 0] 37)
  have hz0 := Box.new w [.int .i64 0, .int .i64 0, .int .i64 0, .int .i64 0, .int .i64 0, .int .i64 0, .bool false, .slice none 0 0, .slice none 0 0] 37
  have hb0 := hal0.bytesAt hb (fun _ _ h => h)
  have HSZ := Lib.hid (wsize_fit a l cap _ (Nat.le_trans hcap hl) hb0)
  have HB0 := Lib.hid hb0
  clear hb hb0
  go_enter Tryd.func18, Tryd.ntmps18
  go_wp2_with fail
  refine HSZ.out.mono ?_
  rintro e w1 ⟨hc1, hpost⟩
  have hch1 := hal0.trans hc1 (fun _ h => h.elim)
  have hz1 := hz0.chg hc1 (fun h => h)
  have hb1 := hc1.bytesAt HB0.out (fun _ _ h => h)
  have HB1 := Lib.hid hb1
  clear HSZ hz0 hal0 HB0 hb1 hc1
  rcases hpost with ⟨hne, rfl⟩ | ⟨h0, rfl⟩
  · have HE := Lib.hid (told_size hne)
    have HNE := Lib.hid hne
    clear hne
    generalize sizeErr l = er at *
    have z0 := hz1.cell (j := 0) rfl
    have y0 := hz1.free 0
    have z1 := hz1.cell (j := 1) rfl
    have y1 := hz1.free 1
    have z2 := hz1.cell (j := 2) rfl
    have y2 := hz1.free 2
    have z3 := hz1.cell (j := 3) rfl
    have y3 := hz1.free 3
    have z4 := hz1.cell (j := 4) rfl
    have y4 := hz1.free 4
    have z5 := hz1.cell (j := 5) rfl
    have y5 := hz1.free 5
    have z6 := hz1.cell (j := 6) rfl
    have y6 := hz1.free 6
    have z7 := hz1.cell (j := 7) rfl
    have y7 := hz1.free 7
    have z8 := hz1.cell (j := 8) rfl
    have y8 := hz1.free 8
    go_wp2_with fail
    refine bodyPost_ret (v := .tuple #[.agg #[.int .i64 0, .int .i64 0, .int .i64 0, .int .i64 0, .int .i64 0, .int .i64 0, .bool false, .slice none 0 0, .slice none 0 0], .int .i64 0, .iface 26 (.int .i64 (er : Nat))]) (by simp [results, Tryd.results18, go_sem, z0, z1, z2, z3, z4, z5, z6, z7, z8]) rfl ⟨?_, .inl ⟨by rw [HE.out]; exact HNE.out, by rw [HE.out]; unfold errV; rw [if_neg HNE.out]⟩⟩
    iterate 9 (refine Chg.setCell ?_ (.inr (Nat.le_refl _)) _)
    exact hch1
  · have HIN := Lib.hid (told_in h0)
    have HBL := Lib.hid (bodyQ_len h0)
    obtain ⟨g1, g2, g3, g4⟩ := sizeErr_good h0
    have HN := Lib.hid (show ((fromB l + 4 : Nat) : Int) = ((fromB l + 4 : Nat) : Int) from rfl)
    have HBB : Hid (bodyQ l = (l.take (fromB l + 4)).drop 4) := rfl
    clear h0
    have HP : ∀ e w', (Chg Nil w w' ∧ ((toldErr l ≠ 0 ∧ e = .returned (.tuple #[.agg #[.int .i64 0, .int .i64 0, .int .i64 0, .int .i64 0, .int .i64 0, .int .i64 0, .bool false, .slice none 0 0, .slice none 0 0], .int .i64 0, errV 26 (toldErr l)])) ∨
    (toldErr l = 0 ∧ ∃ v u, e = .returned (.tuple #[.agg (arCells (chainA (bodyQ l)).1 v u).toArray, .int .i64 ((fromB l + 4 : Nat) : Int), errV 26 0]) ∧ OwnR 99 w' v (chainA (bodyQ l)).1.recs ∧ OwnT 74 w' u (chainA (bodyQ l)).1.tops ∧ (∀ k, v.ownBlock = some k → w.heap.size ≤ k) ∧ ∀ k, u.ownBlock = some k → w.heap.size ≤ k))) → ToldPost (errV 26) (chainA (bodyQ l)).1 (toldErr l) w l e w' := fun _ _ h => h
    generalize hn : fromB l + 4 = n at *
    have hbn : (bodyQ l).length = n - 4 := by rw [HBL.out]; omega
    have hn4 : 4 < n := by omega
    have hnl : n ≤ l.length := by omega
    clear hn g2 g3 g4 HBL HN
    obtain ⟨b, off, rfl⟩ := HB1.out.some (by omega)
    unfold maxLen at hl
    have hc4 : ¬ cap = 4 := by omega
    have hnc : n ≤ cap := by omega
    have h4n : (4 : Int) ≤ n := by omega
    have hby : BytesAt w1 (some ⟨b, off + 4, none⟩) (bodyQ l) := by rw [HBB.out]; exact (HB1.out.take n).drop 4
    have hbk : b < w1.heap.size := by
      obtain ⟨b', off', hbb, hcc⟩ := hby 0 (by omega)
      cases hbb
      exact World.block_lt_of_cell? _ _ hcc
    go_upto_region 5 with fail
    have hgb := Box.new w1 [.slice (some ⟨b, off + 4, none⟩) (n - 4) (cap - 4), .bool false] 88
    have hga := (Chg.refl Nil w1).alloc (.cells #[.slice (some ⟨b, off + 4, none⟩) (n - 4) (cap - 4), .bool false] 88)
    have hrd : RdS (w1.alloc (.cells #[.slice (some ⟨b, off + 4, none⟩) (n - 4) (cap - 4), .bool false] 88)) w1.heap.size b (bodyQ l, false) := ⟨off + 4, cap - 4, by omega, by rw [hbn]; omega, by unfold maxLen; omega, by rw [hbn]; exact hgb.cell (j := 0) rfl, hgb.cell (j := 1) rfl, hgb.free 0, hgb.free 1, hga.bytesAt hby (fun _ _ h => h)⟩
    have hz2 := hz1.chg hga (fun h => h)
    have hch2 := hch1.trans hga (fun _ h => .inl h)
    have hzg : w.heap.size < w1.heap.size := (Array.getElem?_eq_some_iff.1 hz1).1
    have hbw := HBW.out _ rfl (by omega)
    simp only at hbw
    have hgw : w1.heap.size < (w1.alloc (.cells #[.slice (some ⟨b, off + 4, none⟩) (n - 4) (cap - 4), .bool false] 88)).heap.size := by simp
    have HRD := Lib.hid hrd
    clear hgb hga hrd hby hz1 hch1 HB1 hbk HBB hbn hc4 hnc h4n
    go_wp2_with fail
    generalize (w1.alloc (.cells #[.slice (some ⟨b, off + 4, none⟩) (n - 4) (cap - 4), .bool false] 88)) = w2 at *
    generalize w1.heap.size = g at *
    refine (rnum_st g b (bodyQ l, false) w2 HRD.out).mono ?_
    rintro e w3 ⟨rfl, hc3, hr3⟩
    have HCH : Hid (chainA (bodyQ l) = if (numS (numS (numS (bodyQ l, false)).2).2).1 = 0 ∧ (headS (numS (bodyQ l, false)).1 (numS (numS (numS (bodyQ l, false)).2).2).1 (numS (numS (numS (bodyQ l, false)).2).2).2).2 = false then ansS wText (numS (bodyQ l, false)).1 (ar0 (numS (bodyQ l, false)).1 (numS (numS (bodyQ l, false)).2).1 (numS (numS (numS (bodyQ l, false)).2).2).1) (headS (numS (bodyQ l, false)).1 (numS (numS (numS (bodyQ l, false)).2).2).1 (numS (numS (numS (bodyQ l, false)).2).2).2) else (ar0 (numS (bodyQ l, false)).1 (numS (numS (bodyQ l, false)).2).1 (numS (numS (numS (bodyQ l, false)).2).2).1, headS (numS (bodyQ l, false)).1 (numS (numS (numS (bodyQ l, false)).2).2).1 (numS (numS (numS (bodyQ l, false)).2).2).2)) := rfl
    generalize chainA (bodyQ l) = F at *
    generalize (numS (bodyQ l, false)).2 = s1 at *
    generalize (numS (bodyQ l, false)).1 = k at *
    have HR3 := Lib.hid hr3
    clear HRD hr3
    go_wp2_with fail
    refine (rnum_st g b s1 w3 HR3.out).mono ?_
    rintro en w3b ⟨rfl, hc3b, hr3b⟩
    generalize (numS s1).2 = s1b at *
    generalize (numS s1).1 = c at *
    have HR3b := Lib.hid hr3b
    clear hr3b
    go_wp2_with fail
    refine (rnum_st g b s1b w3b HR3b.out).mono ?_
    rintro en w4 ⟨rfl, hc4, hr4⟩
    generalize (numS s1b).2 = s2 at *
    generalize (numS s1b).1 = e at *
    have HR4 := Lib.hid hr4
    clear hr4
    go_upto_region 6 with fail
    have hxb := Box.new w4 [.int .i64 (k : Nat), .int .i64 (c : Nat), .int .i64 (e : Nat), .int .i64 0, .int .i64 0, .int .i64 0, .bool false, .slice none 0 0, .slice none 0 0] 37
    have hxa := (Chg.refl Nil w4).alloc (.cells #[.int .i64 (k : Nat), .int .i64 (c : Nat), .int .i64 (e : Nat), .int .i64 0, .int .i64 0, .int .i64 0, .bool false, .slice none 0 0, .slice none 0 0] 37)
    have hz4 := (((hz2.chg hc3 (by omega)).chg hc3b (by omega)).chg hc4 (by omega)).chg hxa (fun h => h)
    have hch4 := (((hch2.trans hc3 (fun i hi => .inr (by omega))).trans hc3b (fun i hi => .inr (by omega))).trans hc4 (fun i hi => .inr (by omega))).trans hxa (fun _ h => .inl h)
    have HR5 := Lib.hid (Rg.mk (HR4.out.chg hxa (fun h => h) (fun h => h)) hxb hz4 hch4)
    have hgx : g < w4.heap.size := by have := hc3.size; have := hc3b.size; have := hc4.size; omega
    clear hxb hxa hz4 hch4 hz2 hch2 hc3 hc3b hc4 HR3 HR3b HR4 hgw
    generalize (w4.alloc (.cells #[.int .i64 (k : Nat), .int .i64 (c : Nat), .int .i64 (e : Nat), .int .i64 0, .int .i64 0, .int .i64 0, .bool false, .slice none 0 0, .slice none 0 0] 37)) = w5 at *
    generalize w4.heap.size = x at *
    have d1 := HR5.out.rd.b1
    have d2 := HR5.out.rd.y1
    have q0 := HR5.out.bx.cell (j := 0) rfl
    have q2 := HR5.out.bx.cell (j := 2) rfl
    go_cut [8] (fun u8 wx => u8 = .pointer (some ⟨x, 0, none⟩) ∧ Rg 37 [.int .i64 0, .int .i64 0, .int .i64 0, .int .i64 0, .int .i64 0, .int .i64 0, .bool false, .slice none 0 0, .slice none 0 0] w g b x [.int .i64 (k : Nat), .int .i64 (c : Nat), .int .i64 (e : Nat), .int .i64 0, .int .i64 0, .int .i64 0, .bool false, .slice none 0 0, .slice none 0 0] (headS k e s2) wx)
    case first =>
      have HKD : Hid (decide (1 ≤ (k : Int) ∧ (k : Int) ≤ 7) = okK k) := by unfold Hid okK; congr 1; exact propext (by omega)
      have HKS : Hid (headS k e s2 = (s2.1, (s2.2 || !okK k) || decide (15 < e))) := rfl
      have hkd := kind_any (k : Int) w5
      rw [HKD.out] at hkd
      have HK := Lib.hid hkd
      generalize okK k = ok at *
      clear hkd HKD
      obtain ⟨s2l, s2b⟩ := s2
      simp only at d1 d2
      have HDE : Hid (decide (15 < (e : Int)) = decide (15 < e)) := by unfold Hid; congr 1; exact propext (by omega)
      cases s2b
      · go_wp2_with fail
        refine HK.out.mono ?_
        rintro en _ ⟨rfl, rfl⟩
        cases ok
        · go_wp2_with fail
          go_meet
          case rel => exact ⟨rfl, by rw [HKS.out]; exact HR5.out.mark hzg hgx _⟩
        · go_wp2_with fail
          go_meet
          case rel => exact ⟨rfl, by rw [HKS.out, ← HDE.out]; exact HR5.out.mark hzg hgx _⟩
      · go_wp2_with fail
        go_meet
        case rel => exact ⟨rfl, by rw [HKS.out]; exact HR5.out.mark hzg hgx _⟩
    case rest =>
      obtain ⟨rfl, hR6⟩ := hcut
      have HR6 := Lib.hid hR6
      clear hR6 HR5 d1 d2 q0 q2
      generalize headS k e s2 = s3 at *
      have q2 := HR6.out.bx.cell (j := 2) rfl
      have d1 := HR6.out.rd.b1
      go_upto_region 7 with fail
      go_cut [57] (fun u57 wx => u57 = .bool (decide (e = 0 ∧ s3.2 = false)) ∧ wx = wc)
      case first =>
        by_cases he : e = 0
        · subst he
          by_cases hb : s3.2 = true
          · rw [hb] at d1
            have HDD : Hid (decide ((0 : Nat) = 0 ∧ s3.2 = false) = false) := decide_eq_false (fun h => by rw [hb] at h; cases h.2)
            clear hb
            go_wp2_with fail
            go_meet
            case rel => exact ⟨by rw [HDD.out], rfl⟩
          · have hb' : s3.2 = false := by simpa using hb
            rw [hb'] at d1
            have HDD : Hid (decide ((0 : Nat) = 0 ∧ s3.2 = false) = true) := decide_eq_true ⟨rfl, hb'⟩
            clear hb hb'
            go_wp2_with fail
            go_meet
            case rel => exact ⟨by rw [HDD.out], rfl⟩
        · have HDD : Hid (decide (e = 0 ∧ s3.2 = false) = false) := decide_eq_false (fun h => he h.1)
          have he' : ¬ (e : Int) = 0 := by omega
          clear he
          go_wp2_with fail
          go_meet
          case rel => exact ⟨by rw [HDD.out], rfl⟩
      obtain ⟨rfl, rfl⟩ := hcut
      clear q2 d1
      have HGG : Hid (∀ B, B = decide (e = 0 ∧ s3.2 = false) → F = if B = true then ansS wText k (ar0 k c e) s3 else (ar0 k c e, s3)) := by
        rintro B rfl
        rw [HCH.out]
        by_cases hq : e = 0 ∧ s3.2 = false
        · rw [if_pos hq, if_pos (decide_eq_true hq)]
        · rw [if_neg hq, if_neg (by rw [decide_eq_false hq]; simp)]
      have hgg := HGG.out _ rfl
      generalize decide (e = 0 ∧ s3.2 = false) = B at *
      have HF0 := Lib.hid hgg
      clear hgg HGG
      go_upto_if 57 with fail
      go_cut [8] (fun u8 wx => u8 = .pointer (some ⟨x, 0, none⟩) ∧ ∃ v u, Rg 37 [.int .i64 0, .int .i64 0, .int .i64 0, .int .i64 0, .int .i64 0, .int .i64 0, .bool false, .slice none 0 0, .slice none 0 0] w g b x (arCells F.1 v u) F.2 wx ∧ OwnR 99 wx v F.1.recs ∧ OwnT 74 wx u F.1.tops ∧ (∀ i, v.ownBlock = some i → x < i) ∧ ∀ i, u.ownBlock = some i → x < i)
      case first =>
        cases B
        · have HF : Hid (F = (ar0 k c e, s3)) := by unfold Hid; rw [HF0.out]; rfl
          go_wp2_with fail
          go_meet
          case rel => exact ⟨rfl, .slice none 0 0, .slice none 0 0, by rw [HF.out]; exact HR6.out, by rw [HF.out]; exact OwnR.nil _ _, by rw [HF.out]; exact OwnT.nil _ _, by simp [Value.ownBlock], by simp [Value.ownBlock]⟩
        · have HF : Hid (F = ansS wText k (ar0 k c e) s3) := by unfold Hid; rw [HF0.out]; rfl
          have HRA := Lib.hid (ranswer_any g b x k c e s3 _ (by have := HR6.out.lt; omega) (by omega) (by omega) HR6.out.rd HR6.out.bx)
          go_wp2_with fail
          refine HRA.out.mono ?_
          rintro en w7 ⟨rfl, hp⟩
          have HP7 := Lib.hid (HR6.out.ans hzg hgx hp)
          clear hp
          go_wp2_with fail
          go_meet
          case rel => exact ⟨rfl, by rw [HF.out]; exact HP7.out⟩
      case rest =>
        obtain ⟨rfl, v, u, hR9, hown, hot, hfr, hft⟩ := hcut
        obtain ⟨vx, vn, vc, rfl⟩ := ownsRow_form hown
        obtain ⟨ux, un, uc, rfl⟩ := ownsRow_form hot
        clear HCH HF0
        obtain ⟨⟨f0, f1, f2, f3, f4, f5, f6, f7, f8⟩, sl, sb⟩ := F
        simp only at HIN hR9 hown hot HP
        obtain ⟨⟨roff, rcap, hrd⟩, hbx, hbz, hch⟩ := hR9
        have c0 := hrd.c0
        have c1 := hrd.c1
        have HOW := Lib.hid hown
        have HOT := Lib.hid hot
        clear hrd hown hot HR6
        have z0 := hbz.cell (j := 0) rfl
        have y0 := hbz.free 0
        have z1 := hbz.cell (j := 1) rfl
        have y1 := hbz.free 1
        have z2 := hbz.cell (j := 2) rfl
        have y2 := hbz.free 2
        have z3 := hbz.cell (j := 3) rfl
        have y3 := hbz.free 3
        have z4 := hbz.cell (j := 4) rfl
        have y4 := hbz.free 4
        have z5 := hbz.cell (j := 5) rfl
        have y5 := hbz.free 5
        have z6 := hbz.cell (j := 6) rfl
        have y6 := hbz.free 6
        have z7 := hbz.cell (j := 7) rfl
        have y7 := hbz.free 7
        have z8 := hbz.cell (j := 8) rfl
        have y8 := hbz.free 8
        cases sb
        · by_cases hsl : sl = []
          · have HX : Hid (toldErr l = 0) := by unfold Hid; rw [HIN.out, if_pos ⟨rfl, hsl⟩]
            subst hsl
            simp only [List.length_nil] at c0
            have x0 := hbx.cell (j := 0) rfl
            have x1 := hbx.cell (j := 1) rfl
            have x2 := hbx.cell (j := 2) rfl
            have x3 := hbx.cell (j := 3) rfl
            have x4 := hbx.cell (j := 4) rfl
            have x5 := hbx.cell (j := 5) rfl
            have x6 := hbx.cell (j := 6) rfl
            have x7 := hbx.cell (j := 7) rfl
            have x8 := hbx.cell (j := 8) rfl
            go_wp2_with fail
            refine bodyPost_ret (v := .tuple #[.agg #[.int .i64 f0, .int .i64 f1, .int .i64 f2, .int .i64 f3, .int .i64 f4, .int .i64 f5, .bool f6, .slice vx vn vc, .slice ux un uc], .int .i64 (n : Nat), .nilIface]) (by simp [results, Tryd.results18, go_sem, z0, z1, z2, z3, z4, z5, z6, z7, z8]) rfl (HP _ _ ⟨?_, .inr ⟨HX.out, .slice vx vn vc, .slice ux un uc, rfl, ?_, ?_, ?_, ?_⟩⟩)
            · iterate 9 (refine Chg.setCell ?_ (.inr (Nat.le_refl _)) _)
              exact hch
            · refine ownsRow_chg HOW.out (S := fun i => i = w.heap.size) ?_ (fun i hi e => by have := hfr i hi; omega)
              iterate 9 (refine Chg.setCell (S := fun i => i = w.heap.size) ?_ (.inl rfl) _)
              exact Chg.refl _ _
            · refine ownsRow_chg HOT.out (S := fun i => i = w.heap.size) ?_ (fun i hi e => by have := hft i hi; omega)
              iterate 9 (refine Chg.setCell (S := fun i => i = w.heap.size) ?_ (.inl rfl) _)
              exact Chg.refl _ _
            · exact fun i hi => by have := hfr i hi; omega
            · exact fun i hi => by have := hft i hi; omega
          · have HX : Hid (toldErr l = 3) := by unfold Hid; rw [HIN.out, if_neg (fun h => hsl h.2)]
            have hl1 : (0 : Int) < (sl.length : Int) := by have := List.length_pos_iff.2 hsl; omega
            generalize sl.length = sn at *
            go_wp2_with fail
            refine bodyPost_ret (v := .tuple #[.agg #[.int .i64 0, .int .i64 0, .int .i64 0, .int .i64 0, .int .i64 0, .int .i64 0, .bool false, .slice none 0 0, .slice none 0 0], .int .i64 0, .iface 26 (.int .i64 3)]) (by simp [results, Tryd.results18, go_sem, z0, z1, z2, z3, z4, z5, z6, z7, z8]) rfl (HP _ _ ⟨?_, .inl ⟨by rw [HX.out]; simp, by rw [HX.out]; rfl⟩⟩)
            iterate 9 (refine Chg.setCell ?_ (.inr (Nat.le_refl _)) _)
            exact hch
        · have HX : Hid (toldErr l = 3) := by unfold Hid; rw [HIN.out, if_neg (fun h => by cases h.1)]
          go_wp2_with fail
          refine bodyPost_ret (v := .tuple #[.agg #[.int .i64 0, .int .i64 0, .int .i64 0, .int .i64 0, .int .i64 0, .int .i64 0, .bool false, .slice none 0 0, .slice none 0 0], .int .i64 0, .iface 26 (.int .i64 3)]) (by simp [results, Tryd.results18, go_sem, z0, z1, z2, z3, z4, z5, z6, z7, z8]) rfl (HP _ _ ⟨?_, .inl ⟨by rw [HX.out]; simp, by rw [HX.out]; rfl⟩⟩)
          iterate 9 (refine Chg.setCell ?_ (.inr (Nat.le_refl _)) _)
          exact hch
end Go.Proofs.YtmklicodfiggnaaDoor
