/-
  The walk of SegmentPlays, at a base and a room that may be. (Closed facts of the kernel apart: KRAUX.)
-/
import Derived.Test.YtmaomebnigcgeaaGreatDoorPl43
import Derived.Test.YtmaomebnigcgeaaGreatDoorPl44
import Derived.Deep.CutBlock
import Derived.Deep.DeepCutAuto
set_option linter.unusedSimpArgs false
set_option linter.unusedVariables false
namespace Go.Proofs.YtmaomebnigcgeaaGreatDoor
open Go.RowKit Go.Maps

set_option maxHeartbeats 0 in
set_option maxRecDepth 100000 in
theorem segmentPlays_in (bn : Nat) (hb : bn ≤ 1099511627776) (r : Nat) (hr : r ≤ 1048576) (xa : Option Addr) (xs : List Pt) (xc : Nat) (w : World) (hxl : xs.length ≤ 40) (hok : ∀ x ∈ xs, x.Ok w) (hxa : PtsAt w xa xs) (hgh : Handle w) (hT : Tabs w) :
    Calls Tryz.prog 3 #[.int .i64 (bn : Nat), .int .i64 (r : Nat), .slice xa xs.length xc] w fun e w' => e = .returned (.bool true) ∧ Chg Nil w w' := by
  have h0 : ¬ (r : Int) < 0 := by omega
  have h1 : ¬ (1048576 : Int) < (r : Int) := by omega
  have h40 : ¬ (40 : Int) < (xs.length : Int) := by omega
  have hb0 : ¬ (bn : Int) < 0 := by omega
  have hb1 : ¬ (1099511627776 : Int) < (bn : Int) := by omega
  obtain ⟨fn, hfn⟩ : ∃ fn, segName [115] bn = fn := ⟨_, rfl⟩
  have hk := seg_ok bn hb 115 (by decide)
  rw [hfn] at hk
  have HK := Lib.hid hk
  have HFN := Lib.hid hfn
  have hfl : fn.length ≤ 900 := by have := dkName_len hk.1; omega
  have HFL := Lib.hid hfl
  have HNEW := Lib.hid (new_any r hr w)
  have HRR := Lib.hid hr
  have HXA := Lib.hid hxa
  have HOK := Lib.hid hok
  have HGH := Lib.hid hgh
  have HT := Lib.hid hT
  have HTB := Lib.hid hT.lt
  have HBN := Lib.hid hb
  have HXL := Lib.hid hxl
  clear hb hr hok hxa hgh hT hfn hk hfl
  go_enter Tryz.func3, Tryz.ntmps3
  go_wp2_with fail
  refine HNEW.out.mono ?_
  rintro e w1 ⟨p, mb, rfl, hp, hmb, hdm, hc1⟩
  have HDS := Lib.hid (DsS.start HRR.out hp hmb hdm hc1)
  have HC1 := Lib.hid hc1
  clear hp hmb hdm hc1
  have HMK := Lib.hid (smake_any HDS.out (HT.out.chg HC1.out) HTB.out ⟨#[115]⟩ (by decide) bn HBN.out)
  obtain ⟨d1, hd1, ho1⟩ := fresh_make (r := r) (nm := fn) HK.out.1
  have e1 : segName (ByteArray.mk #[115]).data.toList bn = fn := HFN.out
  rw [e1, hd1] at HMK
  clear e1 hd1
  go_wp2_with fail
  refine HMK.out.mono ?_
  rintro e w2 ⟨hc2, S', hds2, hcase⟩
  rcases hcase with ⟨_, s, hs, rfl, hsg⟩ | ⟨hne, _⟩
  case inr => exact absurd rfl hne
  have HSG := Lib.hid hsg
  have HC2 : Hid (Chg Nil w w2) := HC1.out.trans hc2 (fun k hk => .inr hk.1)
  have HS := Lib.hid hs
  have HO1 := Lib.hid ho1
  have HT2 : Hid (Tabs w2) := HT.out.chg HC2.out
  clear hc2 hds2 hs hsg HMK HDS ho1
  have HNO : Hid (Calls Tryz.prog 8 #[.pointer (some ⟨p, 0, none⟩), .string ⟨#[116]⟩, .int .i64 (bn : Nat)] w2 fun e w' => e = .returned (.tuple #[.pointer none, .int .i64 0, .iface 32 (.int .i64 7)]) ∧ Chg Nil w2 w') :=
    sopen_none HSG.out.a HT2.out ⟨#[116]⟩ (by decide) bn HBN.out (HO1.out.size_no (by rw [← HFN.out]; show segName [116] bn ≠ _; unfold segName; simp))
  go_wp2_with fail
  refine HNO.out.mono ?_
  rintro e w3 ⟨rfl, hc3⟩
  have HC3 := Lib.hid (HC2.out.trans hc3 (fun _ h => h.elim))
  have HSG3 := Lib.hid (HSG.out.nil hc3)
  have HBA : Hid (Calls Tryz.prog 7 #[.iface 32 (.int .i64 7), .int .i64 7] w3 fun e w' => e = .returned (.bool true) ∧ Chg Nil w3 w') := lawBare_any 7 w3 (HGH.out.chg HC3.out (fun h => h))
  clear hc3
  go_wp2_with fail
  refine HBA.out.mono ?_
  rintro e w4 ⟨rfl, hc4⟩
  have HC4 := Lib.hid (HC3.out.trans hc4 (fun _ h => h.elim))
  have HSG4 := Lib.hid (HSG3.out.nil hc4)
  have HAL := Lib.hid ((Chg.refl Nil w4).alloc (.cells #[.int .i64 (bn : Nat), .slice none 0 0, .int .i64 0] 38))
  have hbx : Box (w4.alloc (.cells #[.int .i64 (bn : Nat), .slice none 0 0, .int .i64 0] 38)) w4.heap.size [.int .i64 (bn : Nat), .slice none 0 0, .int .i64 0] 38 := Box.new _ _ _
  clear hc4 HBA
  go_upto_region 11 with fail
  have hz5 : (w4.alloc (.cells #[.int .i64 (bn : Nat), .slice none 0 0, .int .i64 0] 38)).heap.size = w4.heap.size + 1 := by rw [World.size_alloc]
  generalize w4.alloc (.cells #[.int .i64 (bn : Nat), .slice none 0 0, .int .i64 0] 38) = w5 at *
  obtain ⟨q, hq⟩ : ∃ q, w4.heap.size = q := ⟨_, rfl⟩
  rw [hq] at hbx
  rw [hq]
  have HSD : Hid (SdS w.heap.size w5 p s q r fn (bn : Nat) S' (.slice none 0 0) (.slice none 0 0) d1 ⟨fn, bn, [], 0⟩ []) := by
    have hz := HC4.out.size
    refine ⟨(HSG4.out.grow HAL.out).sub ?_, ⟨hbx, OwnQ.nil _, fun m hm => (by cases hm)⟩, HO1.out, ⟨rfl, rfl, fun b hb => (by cases hb), trivial⟩, rfl, rfl, Nat.zero_le _, ?_, fun m hm => (by cases hm)⟩
    · rintro k (hk | hk | hk | ⟨m, hm, _⟩)
      · exact .inl hk
      · exact .inr (by omega)
      · simp [Value.ownBlock] at hk
      · cases hm
    · rintro k (hk | hk)
      · omega
      · simp [Value.ownBlock] at hk
  have HC5 := Lib.hid (HC4.out.trans HAL.out (fun _ h => h.elim))
  clear hbx hq hz5 h0 h1 h40 hb0 hb1
  go_wp2_with fail
  go_loopw [9, 15] (fun sv iv wr => ∃ (wq : World) (i s : Nat) (S : Nat → Prop) (v vq : Value) (d : Dk) (g : Sg) (ms : List Bm), wq = wr ∧ i ≤ xs.length ∧ iv = .int .i64 i ∧ sv = .pointer (some ⟨s, 0, none⟩) ∧ SdS w.heap.size wr p s q r fn (bn : Nat) S v vq d g ms ∧ Chg Nil w wr) (fun _ iv _ => xs.length - (RowKit.intOf iv).toNat)
  case atStart => exact ⟨_, 0, s, S', _, _, _, _, _, rfl, by omega, rfl, rfl, HSD.out, HC5.out⟩
  case round =>
    obtain ⟨wr, i, s, S, v, vq, d, g, ms, rfl, hi, rfl, rfl, hsd, hc⟩ := hrel
    have HSD := Lib.hid hsd
    have HC := Lib.hid hc
    clear hsd hc
    by_cases hil : i < xs.length
    · have hii : (i : Int) < (xs.length : Int) := by omega
      obtain ⟨b, off, rfl, hcell⟩ := HXA.out i hil
      have HXO := Lib.hid (HOK.out _ (List.getElem_mem hil))
      obtain ⟨x, hx⟩ : ∃ x, x = xs[i] := ⟨_, rfl⟩
      rw [← hx] at hcell HXO
      have HIL := Lib.hid hil
      clear hx hil
      obtain ⟨xw, xA, xB, ⟨bb, be, brs⟩, ra, rc⟩ := x
      have y0 := HC.out.cell (hcell 0 _ rfl) (fun h => h)
      have y1 := HC.out.cell (hcell 1 _ rfl) (fun h => h)
      have y2 := HC.out.cell (hcell 2 _ rfl) (fun h => h)
      have y3 := HC.out.cell (hcell 3 _ rfl) (fun h => h)
      have y4 := HC.out.cell (hcell 4 _ rfl) (fun h => h)
      have y5 := HC.out.cell (hcell 5 _ rfl) (fun h => h)
      rw [Nat.add_zero] at y0
      clear hcell
      have HAL := Lib.hid ((Chg.refl Nil wr).alloc (.cells #[.int .i64 xw, .int .i64 xA, .int .i64 xB, .int .i64 bb, .int .i64 be, .slice ra brs.length rc] 43))
      have hbx := Box.new wr [.int .i64 xw, .int .i64 xA, .int .i64 xB, .int .i64 bb, .int .i64 be, .slice ra brs.length rc] 43
      go_upto_region 15 with fail
      clear y0 y1 y2 y3 y4 y5
      have hbx : Box (wr.alloc (.cells #[.int .i64 xw, .int .i64 xA, .int .i64 xB, .int .i64 bb, .int .i64 be, .slice ra brs.length rc] 43)) wr.heap.size [.int .i64 xw, .int .i64 xA, .int .i64 xB, .int .i64 bb, .int .i64 be, .slice ra brs.length rc] 43 := hbx
      generalize wr.alloc (.cells #[.int .i64 xw, .int .i64 xA, .int .i64 xB, .int .i64 bb, .int .i64 be, .slice ra brs.length rc] 43) = w6 at *
      generalize wr.heap.size = gx at *
      have HSD6 := Lib.hid (HSD.out.nil HAL.out)
      have HC6 := Lib.hid (HC.out.trans HAL.out (fun _ h => h.elim))
      have HBX := Lib.hid hbx
      have x0 := hbx.cell (j := 0) rfl
      clear hbx HSD HC
      go_upto_block 2 with fail
      go_cut [9] (fun sv wy => ∃ (s : Nat) (S : Nat → Prop) (v vq : Value) (d : Dk) (g : Sg) (ms : List Bm), sv = .pointer (some ⟨s, 0, none⟩) ∧ SdS w.heap.size wy p s q r fn (bn : Nat) S v vq d g ms ∧ Chg Nil w wy)
      case first =>
        clear x0
        by_cases hw0 : xw = 0
        · by_cases h80 : (80 : Int) < (brs.length : Int)
          · have hw0t : (xw == 0) = true := beq_iff_eq.2 hw0
            have x5 := HBX.out.cell (j := 5) rfl
            clear hw0
            go_wp2_with fail
            go_ret
            exact ⟨rfl, HC6.out⟩
          exact sp_add _ (by as_aux_lemma => kernel_rfl) HFL HRR HSD6 HC6 HBX hw0 h80 HXO HGH (by assumption) (by assumption)
        have hw0b : (xw == 0) = false := beq_eq_false_iff_ne.2 hw0
        by_cases hw1 : xw = 1
        · as_aux_lemma =>
          have hw1t : (xw == 1) = true := beq_iff_eq.2 hw1
          have x1 := HBX.out.cell (j := 1) rfl
          have x2 := HBX.out.cell (j := 2) rfl
          have HRD : Hid (Calls Tryz.prog 13 #[.pointer (some ⟨s, 0, none⟩), .pointer (some ⟨q, 0, none⟩), .int .i64 xA, .int .i64 xB] w6 fun e w' => e = .returned (.bool true) ∧ Chg Nil w6 w') := by
            obtain ⟨sf, hf⟩ := HSD6.out.one.find
            rw [← HSD6.out.name] at hf
            exact reads_any HSD6.out.sg (by rw [HSD6.out.name]; have := HFL.out; omega) HSD6.out.of sf hf HSD6.out.sq (HSD6.out.few HRR.out) xA xB
          clear hw0 hw1
          go_wp2_with fail
          refine HRD.out.mono ?_
          rintro e w7 ⟨rfl, hc7⟩
          have HC7 := Lib.hid hc7
          clear hc7 x1 x2
          go_wp2_with fail
          go_meet
          case rel => exact ⟨_, _, _, _, _, _, _, rfl, HSD6.out.nil HC7.out, HC6.out.trans HC7.out (fun _ h => h.elim)⟩
        have hw1b : (xw == 1) = false := beq_eq_false_iff_ne.2 hw1
        by_cases hw2 : xw = 2
        · exact sp_since _ (by as_aux_lemma => kernel_rfl) HFL HRR HSD6 HC6 HBX hw2 (by assumption) (by assumption)
        have hw2b : (xw == 2) = false := beq_eq_false_iff_ne.2 hw2
        by_cases hw3 : xw = 3
        · as_aux_lemma =>
          have hw3t : (xw == 3) = true := beq_iff_eq.2 hw3
          have HSY : Hid (Calls Tryz.prog 15 #[.pointer (some ⟨s, 0, none⟩)] w6 fun e w' => e = .returned .nilIface ∧ (∃ S' d', SdS w.heap.size w' p s q r fn (bn : Nat) S' v vq d' g ms) ∧ Chg (fun k => w.heap.size ≤ k) w6 w') := by
            refine (ssync_any HSD6.out.sg (by rw [HSD6.out.name]; have := HFL.out; omega)).mono ?_
            rintro e w' ⟨h1, ⟨S', h2⟩, h3⟩
            obtain ⟨d', h4, h5⟩ := HSD6.out.one.sync
            rw [HSD6.out.name, h4] at h1 h2
            exact ⟨h1, ⟨S', d', HSD6.out.op h2 h3 h5 HSD6.out.of HSD6.out.name HSD6.out.base⟩, KpB.off h3⟩
          clear hw0 hw1 hw2 hw3
          go_wp2_with fail
          refine HSY.out.mono ?_
          rintro e w7 ⟨rfl, h7, hc7⟩
          have H7 := Lib.hid h7
          have HC7 := Lib.hid (HC6.out.trans hc7 (fun k hk => .inr hk))
          clear h7 hc7
          go_wp2_with fail
          go_meet
          case rel =>
            obtain ⟨S', d', h8⟩ := H7.out
            exact ⟨_, _, _, _, _, _, _, rfl, h8, HC7.out⟩
        have hw3b : (xw == 3) = false := beq_eq_false_iff_ne.2 hw3
        by_cases hw4 : xw = 4
        · as_aux_lemma =>
          have hw4t : (xw == 4) = true := beq_iff_eq.2 hw4
          have HOP : Hid (Calls Tryz.prog 8 #[.pointer (some ⟨p, 0, none⟩), .string ⟨#[115]⟩, .int .i64 (bn : Nat)] w6 fun e w' => ∃ s' S' v' g', e = .returned (.tuple #[.pointer (some ⟨s', 0, none⟩), .int .i64 0, .nilIface]) ∧ SdS w.heap.size w' p s' q r fn (bn : Nat) S' v' vq d g' ms ∧ Chg (fun k => w.heap.size ≤ k) w6 w') := by
            obtain ⟨sf, hf⟩ := HSD6.out.one.find
            have e1 : segName (ByteArray.mk #[115]).data.toList bn = fn := HFN.out
            have h1 := sopen_any HSD6.out.sg.ds (HT.out.chg HC6.out) ⟨#[115]⟩ (by decide) bn HBN.out (ms.map Bm.b) [] sf (by rw [e1, List.append_nil]; exact hf) HSD6.out.of.ok (by have := HSD6.out.of.up; rw [HSD6.out.base] at this; exact this) (fun h => absurd rfl h)
            rw [e1] at h1
            have e2 : openR d fn (ms.map Bm.b) [] = (0, d) := if_pos rfl
            rw [e2] at h1
            refine h1.mono ?_
            rintro e w' ⟨hc, S', hds, h2⟩
            rcases h2 with ⟨_, s', v', g', _, he, hsg, hn, hb, hof⟩ | ⟨hne, _⟩
            · have hc' : Chg (Off (KpB w.heap.size q vq ms)) w6 w' := hc.weak (fun k hk => .inl (HSD6.out.sg.sl k hk).1)
              exact ⟨s', S', v', g', he, HSD6.out.op hsg hc' HSD6.out.one hof hn hb, KpB.off hc'⟩
            · exact absurd rfl hne
          clear hw0 hw1 hw2 hw3 hw4
          go_wp2_with fail
          refine HOP.out.mono ?_
          rintro e w7 ⟨s', S', v', g', rfl, h7, hc7⟩
          have H7 := Lib.hid h7
          have HC7 := Lib.hid (HC6.out.trans hc7 (fun k hk => .inr hk))
          clear h7 hc7
          go_wp2_with fail
          go_meet
          case rel => exact ⟨_, _, _, _, _, _, _, rfl, H7.out, HC7.out⟩
        have hw4b : (xw == 4) = false := beq_eq_false_iff_ne.2 hw4
        by_cases hw5 : xw = 5
        · as_aux_lemma =>
          have hw5t : (xw == 5) = true := beq_iff_eq.2 hw5
          have HRW : Hid (Calls Tryz.prog 16 #[.pointer (some ⟨s, 0, none⟩), .pointer (some ⟨q, 0, none⟩), .int .i64 (r : Nat)] w6 fun e w' => e = .returned (.bool true) ∧ ∃ ms', SdPost w.heap.size w6 p s q r fn (bn : Nat) ms' w') :=
            rewrites_any HSD6.out HC6.out.size HFL.out HRR.out HK.out.1 HK.out.2 (HGH.out.chg HC6.out (fun h => h)) (World.block_lt_of_cell? _ _ HGH.out)
          clear hw0 hw1 hw2 hw3 hw4 hw5
          go_wp2_with fail
          refine HRW.out.mono ?_
          rintro e w7 ⟨rfl, h7⟩
          have H7 := Lib.hid h7
          clear h7
          go_wp2_with fail
          go_meet
          case rel =>
            obtain ⟨ms', S', v', vq', d', g', h8, h9⟩ := H7.out
            exact ⟨_, _, _, _, _, _, _, rfl, h8, HC6.out.trans h9 (fun k hk => .inr hk)⟩
        have hw5b : (xw == 5) = false := beq_eq_false_iff_ne.2 hw5
        clear hw0 hw1 hw2 hw3 hw4 hw5
        go_wp2_with fail
        go_meet
        case rel => exact ⟨_, _, _, _, _, _, _, rfl, HSD6.out, HC6.out⟩
      obtain ⟨s2, S2, v2, vq2, d2, g2, ms2, rfl, hsd2, hc2⟩ := hcut
      have HL := Lib.hid (hsd2.looks HRR.out)
      have HSD2 := Lib.hid hsd2
      have HCW := Lib.hid hc2
      have hvq := hsd2.sq.o.form
      generalize vA vq2 = qa2 at hvq
      generalize vC vq2 = qc2 at hvq
      subst hvq
      have q1 := hsd2.sq.c.cell (j := 1) rfl
      have L9 : Hid (∀ w', Chg Nil wc w' → Calls Tryz.prog 24 #[.string ⟨#[115]⟩, .int .i64 (bn : Nat)] w' fun e w'' => e = .returned (.string ⟨fn.toArray⟩) ∧ Chg Nil w' w'') := by
        intro w' hw'
        have h1 := refName_any ((HT.out.chg HCW.out).chg hw') ⟨#[115]⟩ bn (by decide) HBN.out
        have e1 : segName (ByteArray.mk #[115]).data.toList bn = fn := HFN.out
        rw [e1] at h1
        exact h1
      have L10 : Hid (∀ w', Chg Nil wc w' → Calls Tryz.prog 23 #[.pointer (some ⟨p, 0, none⟩), .string ⟨fn.toArray⟩] w' fun e w'' => e = .returned (.int .i64 ((batBs (ms2.map Bm.b)).length : Nat)) ∧ Chg Nil w' w'') := by
        intro w' hw'
        have h1 := size_any (HSD2.out.nil hw').sg.a ⟨fn.toArray⟩ (by show fn.toArray.size ≤ 4611686018427387904; simp; have := HFL.out; omega)
        have e1 : d2.size (ByteArray.mk fn.toArray).data.toList = ((batBs (ms2.map Bm.b)).length : Nat) := HSD2.out.one.size
        rw [e1] at h1
        refine h1.mono ?_
        rintro e w'' ⟨h2, h3⟩
        rw [h3]
        exact ⟨h2, Chg.refl _ _⟩
      clear hsd2 hc2
      have L1 := Lib.hid HL.out.l1
      have L2 := Lib.hid HL.out.l2
      have L3 := Lib.hid HL.out.l3
      have L4 := Lib.hid HL.out.l4
      have L5 := Lib.hid HL.out.l5
      have L6 := Lib.hid HL.out.l6
      have L7 := Lib.hid HL.out.l7
      have L8 := Lib.hid HL.out.l8
      clear HL
      generalize hsz9 : (batBs (ms2.map Bm.b)).length = sz9 at L4 L5 L10
      generalize lastEnd (bn : Nat) (ms2.map Bm.b) = nx9 at L2 L3
      generalize timeOf ((ms2.map Bm.b).flatMap Bt.rs) = lt9 at L7 L8
      clear hsz9
      have e1 : ((bn : Int) == (bn : Int)) = true := beq_self_eq_true _
      have e2 : (nx9 == nx9) = true := beq_self_eq_true _
      have e3 : ((sz9 : Int) == (sz9 : Int)) = true := beq_self_eq_true _
      have e4 : ((ms2.length : Int) == (ms2.length : Int)) = true := beq_self_eq_true _
      have e5 : (lt9 == lt9) = true := beq_self_eq_true _
      go_upto_region 56 with fail
      refine wp_region_mono _ (Chg Nil) (by as_aux_lemma => kernel_rfl) (fun _ _ _ h k => h.trans k (fun _ h => h.elim)) [[], [0], [], [1, 2], [3], [4], [4, 5], [4], [4, 7], [4, 6, 8], [4, 9], [10], [11], [11, 12], [11], [11, 14], [11, 13, 15], [11, 16], [17], [18], [18, 19], [18], [18, 21], [18, 22], [18, 23], [18, 24], [18, 20, 25], [18, 26], [27], [28], [28, 29], [28], [28, 31], [28, 30, 32], [28, 33], [34], [35], [35], [35, 37], [35, 36, 38], [35], [35, 40], [35, 39, 41], [35, 42]] rfl (by as_aux_lemma => kernel_rfl) (Chg.refl _ _).drew ?_
      ((with_reducible apply Walk.eq); case h => (intro w2 hw2 N hN; simp only [depsOf, List.filterMap_nil, List.filterMap_cons, List.getElem?_toArray, List.getElem?_cons_zero, List.getElem?_cons_succ, Option.bind_some, List.nil_append, List.cons_append, Ob]; go_simp; (try go_bits); with_reducible exact hN _ (Chg.refl _ _)))
      (with_reducible apply Walk.eq); case h =>
        intro w2 hw2 N hN
        simp only [depsOf, List.filterMap_nil, List.filterMap_cons, List.getElem?_toArray, List.getElem?_cons_zero, List.getElem?_cons_succ, Option.bind_some, List.nil_append, List.cons_append, Ob]
        go_simp
        refine (L1.out w2 hw2).mono ?_
        rintro e w4 ⟨rfl, hc4⟩
        exact ⟨_, rfl, hN _ hc4⟩
      ((with_reducible apply Walk.eq); case h => (intro w2 hw2 N hN; simp only [depsOf, List.filterMap_nil, List.filterMap_cons, List.getElem?_toArray, List.getElem?_cons_zero, List.getElem?_cons_succ, Option.bind_some, List.nil_append, List.cons_append, Ob]; go_simp; (try go_bits); with_reducible exact hN _ (Chg.refl _ _)))
      ((with_reducible apply Walk.eq); case h => (intro w2 hw2 N hN; simp only [depsOf, List.filterMap_nil, List.filterMap_cons, List.getElem?_toArray, List.getElem?_cons_zero, List.getElem?_cons_succ, Option.bind_some, List.nil_append, List.cons_append, Ob]; go_simp; (try go_bits); with_reducible exact hN _ (Chg.refl _ _)))
      ((with_reducible apply Walk.eq); case h => (intro w2 hw2 N hN; simp only [depsOf, List.filterMap_nil, List.filterMap_cons, List.getElem?_toArray, List.getElem?_cons_zero, List.getElem?_cons_succ, Option.bind_some, List.nil_append, List.cons_append, Ob]; go_simp; (try go_bits); with_reducible exact hN _ (Chg.refl _ _)))
      ((with_reducible apply Walk.eq); case h => (intro w2 hw2 N hN; simp only [depsOf, List.filterMap_nil, List.filterMap_cons, List.getElem?_toArray, List.getElem?_cons_zero, List.getElem?_cons_succ, Option.bind_some, List.nil_append, List.cons_append, Ob]; go_simp; (try go_bits); with_reducible exact hN _ (Chg.refl _ _)))
      (with_reducible apply Walk.eq); case h =>
        intro w2 hw2 N hN
        simp only [depsOf, List.filterMap_nil, List.filterMap_cons, List.getElem?_toArray, List.getElem?_cons_zero, List.getElem?_cons_succ, Option.bind_some, List.nil_append, List.cons_append, Ob]
        go_simp
        refine (L2.out w2 hw2).mono ?_
        rintro e w4 ⟨rfl, hc4⟩
        exact ⟨_, rfl, hN _ hc4⟩
      ((with_reducible apply Walk.eq); case h => (intro w2 hw2 N hN; simp only [depsOf, List.filterMap_nil, List.filterMap_cons, List.getElem?_toArray, List.getElem?_cons_zero, List.getElem?_cons_succ, Option.bind_some, List.nil_append, List.cons_append, Ob]; go_simp; (try go_bits); with_reducible exact hN _ (Chg.refl _ _)))
      (with_reducible apply Walk.eq); case h =>
        intro w2 hw2 N hN
        simp only [depsOf, List.filterMap_nil, List.filterMap_cons, List.getElem?_toArray, List.getElem?_cons_zero, List.getElem?_cons_succ, Option.bind_some, List.nil_append, List.cons_append, Ob]
        go_simp
        refine (L3.out w2 hw2).mono ?_
        rintro e w4 ⟨rfl, hc4⟩
        exact ⟨_, rfl, hN _ hc4⟩
      ((with_reducible apply Walk.eq); case h => (intro w2 hw2 N hN; simp only [depsOf, List.filterMap_nil, List.filterMap_cons, List.getElem?_toArray, List.getElem?_cons_zero, List.getElem?_cons_succ, Option.bind_some, List.nil_append, List.cons_append, Ob]; go_simp; (try go_bits); with_reducible exact hN _ (Chg.refl _ _)))
      ((with_reducible apply Walk.eq); case h => (intro w2 hw2 N hN; simp only [depsOf, List.filterMap_nil, List.filterMap_cons, List.getElem?_toArray, List.getElem?_cons_zero, List.getElem?_cons_succ, Option.bind_some, List.nil_append, List.cons_append, Ob]; go_simp; (try go_bits); with_reducible exact hN _ (Chg.refl _ _)))
      ((with_reducible apply Walk.eq); case h => (intro w2 hw2 N hN; simp only [depsOf, List.filterMap_nil, List.filterMap_cons, List.getElem?_toArray, List.getElem?_cons_zero, List.getElem?_cons_succ, Option.bind_some, List.nil_append, List.cons_append, Ob]; go_simp; (try go_bits); with_reducible exact hN _ (Chg.refl _ _)))
      ((with_reducible apply Walk.eq); case h => (intro w2 hw2 N hN; simp only [depsOf, List.filterMap_nil, List.filterMap_cons, List.getElem?_toArray, List.getElem?_cons_zero, List.getElem?_cons_succ, Option.bind_some, List.nil_append, List.cons_append, Ob]; go_simp; (try go_bits); with_reducible exact hN _ (Chg.refl _ _)))
      (with_reducible apply Walk.eq); case h =>
        intro w2 hw2 N hN
        simp only [depsOf, List.filterMap_nil, List.filterMap_cons, List.getElem?_toArray, List.getElem?_cons_zero, List.getElem?_cons_succ, Option.bind_some, List.nil_append, List.cons_append, Ob]
        go_simp
        refine (L4.out w2 hw2).mono ?_
        rintro e w4 ⟨rfl, hc4⟩
        exact ⟨_, rfl, hN _ hc4⟩
      ((with_reducible apply Walk.eq); case h => (intro w2 hw2 N hN; simp only [depsOf, List.filterMap_nil, List.filterMap_cons, List.getElem?_toArray, List.getElem?_cons_zero, List.getElem?_cons_succ, Option.bind_some, List.nil_append, List.cons_append, Ob]; go_simp; (try go_bits); with_reducible exact hN _ (Chg.refl _ _)))
      (with_reducible apply Walk.eq); case h =>
        intro w2 hw2 N hN
        simp only [depsOf, List.filterMap_nil, List.filterMap_cons, List.getElem?_toArray, List.getElem?_cons_zero, List.getElem?_cons_succ, Option.bind_some, List.nil_append, List.cons_append, Ob]
        go_simp
        refine (L5.out w2 hw2).mono ?_
        rintro e w4 ⟨rfl, hc4⟩
        exact ⟨_, rfl, hN _ hc4⟩
      ((with_reducible apply Walk.eq); case h => (intro w2 hw2 N hN; simp only [depsOf, List.filterMap_nil, List.filterMap_cons, List.getElem?_toArray, List.getElem?_cons_zero, List.getElem?_cons_succ, Option.bind_some, List.nil_append, List.cons_append, Ob]; go_simp; (try go_bits); with_reducible exact hN _ (Chg.refl _ _)))
      ((with_reducible apply Walk.eq); case h => (intro w2 hw2 N hN; simp only [depsOf, List.filterMap_nil, List.filterMap_cons, List.getElem?_toArray, List.getElem?_cons_zero, List.getElem?_cons_succ, Option.bind_some, List.nil_append, List.cons_append, Ob]; go_simp; (try go_bits); with_reducible exact hN _ (Chg.refl _ _)))
      ((with_reducible apply Walk.eq); case h => (intro w2 hw2 N hN; simp only [depsOf, List.filterMap_nil, List.filterMap_cons, List.getElem?_toArray, List.getElem?_cons_zero, List.getElem?_cons_succ, Option.bind_some, List.nil_append, List.cons_append, Ob]; go_simp; (try go_bits); with_reducible exact hN _ (Chg.refl _ _)))
      ((with_reducible apply Walk.eq); case h => (intro w2 hw2 N hN; simp only [depsOf, List.filterMap_nil, List.filterMap_cons, List.getElem?_toArray, List.getElem?_cons_zero, List.getElem?_cons_succ, Option.bind_some, List.nil_append, List.cons_append, Ob]; go_simp; (try go_bits); with_reducible exact hN _ (Chg.refl _ _)))
      (with_reducible apply Walk.eq); case h =>
        intro w2 hw2 N hN
        simp only [depsOf, List.filterMap_nil, List.filterMap_cons, List.getElem?_toArray, List.getElem?_cons_zero, List.getElem?_cons_succ, Option.bind_some, List.nil_append, List.cons_append, Ob]
        go_simp
        refine (L6.out w2 hw2).mono ?_
        rintro e w4 ⟨rfl, hc4⟩
        exact ⟨_, rfl, hN _ hc4⟩
      ((with_reducible apply Walk.eq); case h => (intro w2 hw2 N hN; simp only [depsOf, List.filterMap_nil, List.filterMap_cons, List.getElem?_toArray, List.getElem?_cons_zero, List.getElem?_cons_succ, Option.bind_some, List.nil_append, List.cons_append, Ob]; go_simp; (try go_bits); with_reducible exact hN _ (Chg.refl _ _)))
      ((with_reducible apply Walk.eq); case h => (intro w2 hw2 N hN; simp only [depsOf, List.filterMap_nil, List.filterMap_cons, List.getElem?_toArray, List.getElem?_cons_zero, List.getElem?_cons_succ, Option.bind_some, List.nil_append, List.cons_append, Ob]; go_simp; (try go_bits); with_reducible exact hN _ (Chg.refl _ _)))
      ((with_reducible apply Walk.eq); case h => (intro w2 hw2 N hN; simp only [depsOf, List.filterMap_nil, List.filterMap_cons, List.getElem?_toArray, List.getElem?_cons_zero, List.getElem?_cons_succ, Option.bind_some, List.nil_append, List.cons_append, Ob]; go_simp; (try go_bits); with_reducible exact hN _ (Chg.refl _ _)))
      ((with_reducible apply Walk.eq); case h => (intro w2 hw2 N hN; have hq := hw2.cell q1 (fun h => h); simp only [depsOf, List.filterMap_nil, List.filterMap_cons, List.getElem?_toArray, List.getElem?_cons_zero, List.getElem?_cons_succ, Option.bind_some, List.nil_append, List.cons_append, Ob]; go_simp; with_reducible exact hN _ (Chg.refl _ _)))
      ((with_reducible apply Walk.eq); case h => (intro w2 hw2 N hN; simp only [depsOf, List.filterMap_nil, List.filterMap_cons, List.getElem?_toArray, List.getElem?_cons_zero, List.getElem?_cons_succ, Option.bind_some, List.nil_append, List.cons_append, Ob]; go_simp; (try go_bits); with_reducible exact hN _ (Chg.refl _ _)))
      ((with_reducible apply Walk.eq); case h => (intro w2 hw2 N hN; simp only [depsOf, List.filterMap_nil, List.filterMap_cons, List.getElem?_toArray, List.getElem?_cons_zero, List.getElem?_cons_succ, Option.bind_some, List.nil_append, List.cons_append, Ob]; go_simp; (try go_bits); with_reducible exact hN _ (Chg.refl _ _)))
      ((with_reducible apply Walk.eq); case h => (intro w2 hw2 N hN; simp only [depsOf, List.filterMap_nil, List.filterMap_cons, List.getElem?_toArray, List.getElem?_cons_zero, List.getElem?_cons_succ, Option.bind_some, List.nil_append, List.cons_append, Ob]; go_simp; (try go_bits); with_reducible exact hN _ (Chg.refl _ _)))
      ((with_reducible apply Walk.eq); case h => (intro w2 hw2 N hN; simp only [depsOf, List.filterMap_nil, List.filterMap_cons, List.getElem?_toArray, List.getElem?_cons_zero, List.getElem?_cons_succ, Option.bind_some, List.nil_append, List.cons_append, Ob]; go_simp; (try go_bits); with_reducible exact hN _ (Chg.refl _ _)))
      ((with_reducible apply Walk.eq); case h => (intro w2 hw2 N hN; simp only [depsOf, List.filterMap_nil, List.filterMap_cons, List.getElem?_toArray, List.getElem?_cons_zero, List.getElem?_cons_succ, Option.bind_some, List.nil_append, List.cons_append, Ob]; go_simp; (try go_bits); with_reducible exact hN _ (Chg.refl _ _)))
      (with_reducible apply Walk.eq); case h =>
        intro w2 hw2 N hN
        simp only [depsOf, List.filterMap_nil, List.filterMap_cons, List.getElem?_toArray, List.getElem?_cons_zero, List.getElem?_cons_succ, Option.bind_some, List.nil_append, List.cons_append, Ob]
        go_simp
        refine (L7.out w2 hw2).mono ?_
        rintro e w4 ⟨rfl, hc4⟩
        exact ⟨_, rfl, hN _ hc4⟩
      ((with_reducible apply Walk.eq); case h => (intro w2 hw2 N hN; simp only [depsOf, List.filterMap_nil, List.filterMap_cons, List.getElem?_toArray, List.getElem?_cons_zero, List.getElem?_cons_succ, Option.bind_some, List.nil_append, List.cons_append, Ob]; go_simp; (try go_bits); with_reducible exact hN _ (Chg.refl _ _)))
      (with_reducible apply Walk.eq); case h =>
        intro w2 hw2 N hN
        simp only [depsOf, List.filterMap_nil, List.filterMap_cons, List.getElem?_toArray, List.getElem?_cons_zero, List.getElem?_cons_succ, Option.bind_some, List.nil_append, List.cons_append, Ob]
        go_simp
        refine (L8.out w2 hw2).mono ?_
        rintro e w4 ⟨rfl, hc4⟩
        exact ⟨_, rfl, hN _ hc4⟩
      ((with_reducible apply Walk.eq); case h => (intro w2 hw2 N hN; simp only [depsOf, List.filterMap_nil, List.filterMap_cons, List.getElem?_toArray, List.getElem?_cons_zero, List.getElem?_cons_succ, Option.bind_some, List.nil_append, List.cons_append, Ob]; go_simp; (try go_bits); with_reducible exact hN _ (Chg.refl _ _)))
      ((with_reducible apply Walk.eq); case h => (intro w2 hw2 N hN; simp only [depsOf, List.filterMap_nil, List.filterMap_cons, List.getElem?_toArray, List.getElem?_cons_zero, List.getElem?_cons_succ, Option.bind_some, List.nil_append, List.cons_append, Ob]; go_simp; (try go_bits); with_reducible exact hN _ (Chg.refl _ _)))
      ((with_reducible apply Walk.eq); case h => (intro w2 hw2 N hN; simp only [depsOf, List.filterMap_nil, List.filterMap_cons, List.getElem?_toArray, List.getElem?_cons_zero, List.getElem?_cons_succ, Option.bind_some, List.nil_append, List.cons_append, Ob]; go_simp; (try go_bits); with_reducible exact hN _ (Chg.refl _ _)))
      ((with_reducible apply Walk.eq); case h => (intro w2 hw2 N hN; simp only [depsOf, List.filterMap_nil, List.filterMap_cons, List.getElem?_toArray, List.getElem?_cons_zero, List.getElem?_cons_succ, Option.bind_some, List.nil_append, List.cons_append, Ob]; go_simp; (try go_bits); with_reducible exact hN _ (Chg.refl _ _)))
      ((with_reducible apply Walk.eq); case h => (intro w2 hw2 N hN; simp only [depsOf, List.filterMap_nil, List.filterMap_cons, List.getElem?_toArray, List.getElem?_cons_zero, List.getElem?_cons_succ, Option.bind_some, List.nil_append, List.cons_append, Ob]; go_simp; (try go_bits); with_reducible exact hN _ (Chg.refl _ _)))
      (with_reducible apply Walk.eq); case h =>
        intro w2 hw2 N hN
        simp only [depsOf, List.filterMap_nil, List.filterMap_cons, List.getElem?_toArray, List.getElem?_cons_zero, List.getElem?_cons_succ, Option.bind_some, List.nil_append, List.cons_append, Ob]
        go_simp
        refine (L9.out w2 hw2).mono ?_
        rintro e w4 ⟨rfl, hc4⟩
        exact ⟨_, rfl, hN _ hc4⟩
      (with_reducible apply Walk.eq); case h =>
        intro w2 hw2 N hN
        simp only [depsOf, List.filterMap_nil, List.filterMap_cons, List.getElem?_toArray, List.getElem?_cons_zero, List.getElem?_cons_succ, Option.bind_some, List.nil_append, List.cons_append, Ob]
        go_simp
        refine (L10.out w2 hw2).mono ?_
        rintro e w4 ⟨rfl, hc4⟩
        exact ⟨_, rfl, hN _ hc4⟩
      ((with_reducible apply Walk.eq); case h => (intro w2 hw2 N hN; simp only [depsOf, List.filterMap_nil, List.filterMap_cons, List.getElem?_toArray, List.getElem?_cons_zero, List.getElem?_cons_succ, Option.bind_some, List.nil_append, List.cons_append, Ob]; go_simp; (try go_bits); with_reducible exact hN _ (Chg.refl _ _)))
      (with_reducible apply Walk.eq); case h =>
        intro w2 hw2 N hN
        simp only [depsOf, List.filterMap_nil, List.filterMap_cons, List.getElem?_toArray, List.getElem?_cons_zero, List.getElem?_cons_succ, Option.bind_some, List.nil_append, List.cons_append, Ob]
        go_simp
        refine (L5.out w2 hw2).mono ?_
        rintro e w4 ⟨rfl, hc4⟩
        exact ⟨_, rfl, hN _ hc4⟩
      ((with_reducible apply Walk.eq); case h => (intro w2 hw2 N hN; simp only [depsOf, List.filterMap_nil, List.filterMap_cons, List.getElem?_toArray, List.getElem?_cons_zero, List.getElem?_cons_succ, Option.bind_some, List.nil_append, List.cons_append, Ob]; go_simp; (try go_bits); with_reducible exact hN _ (Chg.refl _ _)))
      ((with_reducible apply Walk.eq); case h => (intro w2 hw2 N hN; simp only [depsOf, List.filterMap_nil, List.filterMap_cons, List.getElem?_toArray, List.getElem?_cons_zero, List.getElem?_cons_succ, Option.bind_some, List.nil_append, List.cons_append, Ob]; go_simp; (try go_bits); with_reducible exact hN _ (Chg.refl _ _)))
      intro w8 hw8
      simp only [List.nil_append, List.cons_append, Fin]
      have HW8 := Lib.hid hw8
      clear hw8 e1 e2 e3 e4 e5 q1
      go_simp
      go_wp2_with fail
      go_roundw
      case rel => exact ⟨_, i + 1, s2, S2, v2, _, d2, g2, ms2, rfl, HIL.out, by go_num, rfl, HSD2.out.nil HW8.out, HCW.out.trans HW8.out (fun _ h => h.elim)⟩
      case measure => exact meas_two HIL.out
    · have hii : ¬ (i : Int) < (xs.length : Int) := by omega
      have HRE : Hid (Calls Tryz.prog 25 #[.pointer (some ⟨s, 0, none⟩)] wr fun e w' => e = .returned .nilIface ∧ (∃ S' d', DiskAt w' p S' d' ∧ d'.used = 0) ∧ Chg (fun k => w.heap.size ≤ k) wr w') := by
        refine (sremove_any HSD.out.sg (by rw [HSD.out.name]; have := HFL.out; omega)).mono ?_
        rintro e w' ⟨h1, ⟨S', h2⟩, h3⟩
        obtain ⟨d', h4, h5⟩ := HSD.out.one.remove
        rw [HSD.out.name, h4] at h1 h2
        exact ⟨h1, ⟨S', d', h2.a, h5⟩, KpB.off h3⟩
      go_wp2_with fail
      refine HRE.out.mono ?_
      rintro e w7 ⟨rfl, ⟨S', d', hda, hdu⟩, hc7⟩
      have HU := Lib.hid (dkused_any hda)
      rw [hdu] at HU
      have HC7 := Lib.hid (HC.out.trans hc7 (fun k hk => .inr hk))
      clear hda hdu hc7
      go_wp2_with fail
      refine HU.out.mono ?_
      rintro e w8 ⟨rfl, hc8⟩
      go_wp2_with fail
      go_ret
      exact ⟨rfl, HC7.out.trans hc8 (fun _ h => h.elim)⟩
end Go.Proofs.YtmaomebnigcgeaaGreatDoor
