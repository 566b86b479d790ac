/-
  The walks of records read: the program's reader's, the document's.
-/
import Derived.Test.YtmklicodfiggnaaDoorWReaderW
import Derived.Test.YtmklicodfiggnaaDoorWTakerW
import Derived.Outline
import Derived.Deep.DeepCutAuto
set_option linter.unusedSimpArgs false
namespace Go.Proofs.YtmklicodfiggnaaDoor
open Go.RowKit

/-- A record read, from each of its parts on. -/
def recF6 (o t : Nat) (kd : Bool) (key : List UInt8) (gn : Bool) (val : List UInt8) (q : St) : Rec × St := ({ off := o, time := t, keyed := kd, key := ⟨key.toArray⟩, gone := gn, value := ⟨val.toArray⟩ }, q)
def recF5 (txt : Nat → St → List UInt8 × St) (o t : Nat) (kd : Bool) (key : List UInt8) (gn : Bool) (q : St) : Rec × St := recF6 o t kd key gn (valS txt gn q).1 (valS txt gn q).2
def recF4 (txt : Nat → St → List UInt8 × St) (o t : Nat) (kd : Bool) (key : List UInt8) (q : St) : Rec × St := recF5 txt o t kd key (truthS q).1 (truthS q).2
def recF3 (txt : Nat → St → List UInt8 × St) (o t : Nat) (kd : Bool) (q : St) : Rec × St := recF4 txt o t kd (keyS txt kd q).1 (keyS txt kd q).2
def recF2 (txt : Nat → St → List UInt8 × St) (o t : Nat) (q : St) : Rec × St := recF3 txt o t (truthS q).1 (truthS q).2
def recF1 (txt : Nat → St → List UInt8 × St) (o : Nat) (q : St) : Rec × St := recF2 txt o (numS q).1 (numS q).2

set_option maxHeartbeats 4000000 in
set_option maxRecDepth 100000 in
theorem rrecs_st (wi : Bool) (g b : Nat) (s : St) (w : World) (hbw : b < w.heap.size) (h : RdS w g b s) :
    Calls Tryd.prog 43 #[.pointer (some ⟨g, 0, none⟩), .bool wi] w fun e w' => ∃ v, e = .returned v ∧ Chg (fun k => k = g) w w' ∧ RdS w' g b (recsS wText wi s).2 ∧ OwnR 99 w' v (recsS wText wi s).1 ∧ ∀ k, v.ownBlock = some k → w.heap.size ≤ k := by
  have hgw : g < w.heap.size := by obtain ⟨_, _, h⟩ := h; exact World.block_lt_of_cell? _ _ h.c0
  have HF : Hid (recsS wText wi s = recsL wText wi (numS s).1 (numS s).2 []) := rfl
  have hn := numS_le s
  have hrn := rnum_st g b s w h
  have HRN := Lib.hid hrn
  clear hrn h
  go_enter Tryd.func43, Tryd.ntmps43
  go_wp2_with fail
  refine HRN.out.mono ?_
  rintro e wz ⟨rfl, hcz, hrz⟩
  generalize (numS s).1 = m at *
  generalize (numS s).2 = s3 at *
  clear HRN
  go_wp2_with fail
  go_loopw [5, 6] (fun v i wr => ∃ (k : Nat) (acc : List Rec) (s1 : St), k ≤ m ∧ i = .int .i64 ((m - k : Nat) : Int) ∧ acc.length = k ∧ recsL wText wi m s3 [] = recsL wText wi (m - k) s1 acc ∧ RdS wr g b s1 ∧
    OwnR 99 wr v acc ∧ (∀ i, v.ownBlock = some i → w.heap.size ≤ i) ∧ Chg (fun k => k = g) w wr) (fun _ i _ => (intOf i).toNat)
  case atStart => exact ⟨0, [], s3, Nat.zero_le _, rfl, rfl, rfl, hrz, OwnR.nil _ _, by simp [Value.ownBlock], hcz⟩
  case round =>
    obtain ⟨k, acc, s1, hk, rfl, hlen2, HD, hr, hown, hvb, hch⟩ := hrel
    clear hrz hcz
    have hmk : ((m - k : Nat) : Int) = (m : Int) - k := by omega
    by_cases hgo : k < m ∧ s1.2 = false
    · obtain ⟨hkm, hb0⟩ := hgo
      have c1 := hr.choose_spec.choose_spec.c1
      rw [hb0] at c1
      have hpos : (0 : Int) < ((m - k : Nat) : Int) := by omega
      have HOW := Lib.hid hown
      have HDD := Lib.hid HD
      have hwz : w.heap.size ≤ wr.heap.size := hch.size
      have hbA := Box.new wr [.int .i64 0, .int .i64 0, .bool false, .string ⟨#[]⟩, .bool false, .string ⟨#[]⟩] 99
      have halA := (Chg.refl Nil wr).alloc (.cells #[.int .i64 0, .int .i64 0, .bool false, .string ⟨#[]⟩, .bool false, .string ⟨#[]⟩] 99)
      have hr0 := hr.chg halA (fun h => h) (fun h => h)
      have HR0 := Lib.hid hr0
      clear hown HD hmk hr0 hr
      go_upto_region 6 with fail
      clear c1 hpos
      generalize wr.alloc (.cells #[.int .i64 0, .int .i64 0, .bool false, .string ⟨#[]⟩, .bool false, .string ⟨#[]⟩] 99) = w0 at *
      have hp : wr.heap.size ≤ wr.heap.size := Nat.le_refl _
      obtain ⟨p, hpp⟩ : ∃ p, p = wr.heap.size := ⟨_, rfl⟩
      rw [← hpp] at hbA ⊢
      have hp : wr.heap.size ≤ p := by omega
      have hpg : ¬ (p = g) := by omega
      have hgp : ¬ (g = p) := by omega
      have hbp : ¬ (b = p) := by omega
      have hbz : Box w0 p [.int .i64 0, .int .i64 0, .bool false, .string ⟨#[]⟩, .bool false, .string ⟨#[]⟩] 99 := hbA
      have hc0 : Chg (fun k => k = g) wr w0 := halA.weak (fun _ h => h.elim)
      have hbs : s1.2 = false := hb0
      have hb0 := hbz
      clear hpp hbA halA
      cases wi
      · obtain ⟨T0, hT0⟩ : ∃ T0, T0 = recS wText false s1 := ⟨_, rfl⟩
        have HT0 := Lib.hid hT0
        have HS0 := Lib.hid hT0
        clear hT0
        have hq0 : ∃ q0, q0 = s1 := ⟨_, rfl⟩
        obtain ⟨q0, hq0⟩ := hq0
        rw [← hq0] at HR0 HS0
        clear hq0
        have hq1 : ∃ q1, q1 = q0 := ⟨_, rfl⟩
        obtain ⟨q1, hq1⟩ := hq1
        have HS1 : Hid (recS wText false q0 = recF1 wText 0 q0) := rfl
        rw [HS1.out] at HS0
        rw [← hq1] at HR0 HS0
        clear hq1 HS1
        go_wp2_with fail
        refine (rnum_st g b q1 w0 HR0.out).mono ?_
        rintro e wa1 ⟨rfl, hca1, hra1⟩
        have hba1 := hb0.chg hca1 hpg
        have hcc1 := hc0.trans hca1 (fun i hi => .inl hi)
        have HRA1 := Lib.hid hra1
        clear hra1 HR0 hb0 hc0
        have HS1 : Hid (recF1 wText 0 q1 = recF2 wText 0 (numS q1).1 (numS q1).2) := rfl
        rw [HS1.out] at HS0
        clear HS1
        generalize (numS q1).1 = tm at *
        generalize (numS q1).2 = q2 at *
        have cq := hba1.cell (j := 1) rfl
        have fq := hba1.free 1
        go_upto_region 9 with fail
        have hb1 := hba1.set 1 (.int .i64 (tm : Nat))
        have hc1 := hcc1.setCell (p := ⟨p, 1, none⟩) (.inr hp) (.int .i64 (tm : Nat))
        have hr1 := HRA1.out.chg ((Chg.refl (fun k => k = p) wa1).setCell (p := ⟨p, 1, none⟩) (.inl rfl) (.int .i64 (tm : Nat))) hgp hbp
        have HR1 := Lib.hid hr1
        clear hba1 hcc1 hr1 HRA1 cq fq
        generalize wa1.setCell ⟨p, 1, none⟩ (.int .i64 (tm : Nat)) = w1 at *
        go_wp2_with fail
        refine (rtruth_st g b q2 w1 HR1.out).mono ?_
        rintro e wa2 ⟨rfl, hca2, hra2⟩
        have hba2 := hb1.chg hca2 hpg
        have hcc2 := hc1.trans hca2 (fun i hi => .inl hi)
        have HRA2 := Lib.hid hra2
        clear hra2 HR1 hb1 hc1
        have HS1 : Hid (recF2 wText 0 tm q2 = recF3 wText 0 tm (truthS q2).1 (truthS q2).2) := rfl
        rw [HS1.out] at HS0
        clear HS1
        generalize (truthS q2).1 = kd at *
        generalize (truthS q2).2 = q3 at *
        have cq := hba2.cell (j := 2) rfl
        have fq := hba2.free 2
        go_upto_region 10 with fail
        have hb2 := hba2.set 2 (.bool kd)
        have hc2 := hcc2.setCell (p := ⟨p, 2, none⟩) (.inr hp) (.bool kd)
        have hr2 := HRA2.out.chg ((Chg.refl (fun k => k = p) wa2).setCell (p := ⟨p, 2, none⟩) (.inl rfl) (.bool kd)) hgp hbp
        have HR2 := Lib.hid hr2
        clear hba2 hcc2 hr2 HRA2 cq fq
        generalize wa2.setCell ⟨p, 2, none⟩ (.bool kd) = w2 at *
        have k2 := hb2.cell (j := 2) rfl
        cases kd
        · have hq4 : ∃ q4, q4 = q3 := ⟨_, rfl⟩
          obtain ⟨q4, hq4⟩ := hq4
          have HS1 : Hid (recF3 wText 0 tm false q3 = recF4 wText 0 tm false [] q3) := rfl
          rw [HS1.out] at HS0
          rw [← hq4] at HR2 HS0
          clear hq4 HS1
          go_wp2_with fail
          refine (rtruth_st g b q4 w2 HR2.out).mono ?_
          rintro e wa3 ⟨rfl, hca3, hra3⟩
          have hba3 := hb2.chg hca3 hpg
          have hcc3 := hc2.trans hca3 (fun i hi => .inl hi)
          have HRA3 := Lib.hid hra3
          clear hra3 HR2 hb2 hc2
          clear k2
          have HS1 : Hid (recF4 wText 0 tm false [] q4 = recF5 wText 0 tm false [] (truthS q4).1 (truthS q4).2) := rfl
          rw [HS1.out] at HS0
          clear HS1
          generalize (truthS q4).1 = gn at *
          generalize (truthS q4).2 = q5 at *
          have cq := hba3.cell (j := 4) rfl
          have fq := hba3.free 4
          go_upto_region 13 with fail
          have hb3 := hba3.set 4 (.bool gn)
          have hc3 := hcc3.setCell (p := ⟨p, 4, none⟩) (.inr hp) (.bool gn)
          have hr3 := HRA3.out.chg ((Chg.refl (fun k => k = p) wa3).setCell (p := ⟨p, 4, none⟩) (.inl rfl) (.bool gn)) hgp hbp
          have HR3 := Lib.hid hr3
          clear hba3 hcc3 hr3 HRA3 cq fq
          generalize wa3.setCell ⟨p, 4, none⟩ (.bool gn) = w3 at *
          have k4 := hb3.cell (j := 4) rfl
          cases gn
          · go_wp2_with fail
            refine (rtext_st 500 g b q5 w3 HR3.out).mono ?_
            rintro e wa4 ⟨rfl, hca4, hra4⟩
            have hba4 := hb3.chg hca4 hpg
            have hcc4 := hc3.trans hca4 (fun i hi => .inl hi)
            have HRA4 := Lib.hid hra4
            clear hra4 HR3 hb3 hc3
            clear k4
            have HS1 : Hid (recF5 wText 0 tm false [] false q5 = recF6 0 tm false [] false (wText 500 q5).1 (wText 500 q5).2) := rfl
            rw [HS1.out] at HS0
            clear HS1
            generalize (wText 500 q5).1 = vl at *
            generalize (wText 500 q5).2 = q6 at *
            have cq := hba4.cell (j := 5) rfl
            have fq := hba4.free 5
            go_upto_region 15 with fail
            have hb4 := hba4.set 5 (.string ⟨vl.toArray⟩)
            have hc4 := hcc4.setCell (p := ⟨p, 5, none⟩) (.inr hp) (.string ⟨vl.toArray⟩)
            have hr4 := HRA4.out.chg ((Chg.refl (fun k => k = p) wa4).setCell (p := ⟨p, 5, none⟩) (.inl rfl) (.string ⟨vl.toArray⟩)) hgp hbp
            have HR4 := Lib.hid hr4
            clear hba4 hcc4 hr4 HRA4 cq fq
            generalize wa4.setCell ⟨p, 5, none⟩ (.string ⟨vl.toArray⟩) = w4 at *
            have HQ : Hid (recS wText false s1 = (⟨0, tm, false, ⟨([] : List UInt8).toArray⟩, false, ⟨vl.toArray⟩⟩, q6)) := HT0.out.symm.trans HS0.out
            have HD6 : Hid (recsL wText false m s3 [] = recsL wText false (m - (k + 1)) q6 (acc ++ [⟨0, tm, false, ⟨([] : List UInt8).toArray⟩, false, ⟨vl.toArray⟩⟩])) := by
              unfold Hid
              rw [HDD.out, show m - k = m - (k + 1) + 1 by omega, recsL_on hbs, HQ.out]
            have g0 := hb4.cell (j := 0) rfl
            have g1 := hb4.cell (j := 1) rfl
            have g2 := hb4.cell (j := 2) rfl
            have g3 := hb4.cell (j := 3) rfl
            have g4 := hb4.cell (j := 4) rfl
            have g5 := hb4.cell (j := 5) rfl
            have hown := ownsRow_chg HOW.out hc4 (fun i hi e => by have := hvb i hi; omega)
            have h63 : acc.length + 1 ≤ maxLen := by unfold maxLen; omega
            have hby : (acc.length + 1) * 64 ≤ 140737488355328 := by omega
            have hb1 := Box.new w4 (Rec.cells ⟨0, tm, false, ⟨([] : List UInt8).toArray⟩, false, ⟨vl.toArray⟩⟩) 99
            have HB1 := Lib.hid hb1
            have HH63 := Lib.hid h63
            have HBY := Lib.hid hby
            have HOW16 := Lib.hid hown
            have HL2 := Lib.hid hlen2
            clear hb1 h63 hby hown hlen2 HQ HS0 HT0
            go_wp2_with (at_builtin; go_must (refine wpList_append_grew rfl (.tmp 45) (.tmp 47) 22 22 rfl recsT _ Tryd.underlying22 (by intro _; simp) _ _ _ rfl (HOW16.out.alloc _) _ 1 (Rec.cells ⟨0, tm, false, ⟨([] : List UInt8).toArray⟩, false, ⟨vl.toArray⟩⟩) rfl (Source.box HB1.out rfl (Rec.cells_one _)) HH63.out HBY.out ?_); intro v2 w2 hown2 hg2 _)
            go_wp2
            go_roundw
            case rel =>
              have hchA := (Chg.refl Nil w4).alloc (.cells (Rec.cells ⟨0, tm, false, ⟨([] : List UInt8).toArray⟩, false, ⟨vl.toArray⟩⟩).toArray 99)
              have hv2 : ∀ i, v2.ownBlock = some i → w.heap.size ≤ i := by
                intro i hi
                rcases hg2.own i hi with h | h
                · exact hvb i h
                · have h1 := hc4.size
                  simp at h
                  omega
              have hup : Chg (Own u5) w4 w2 := (hchA.weak (fun _ h => h.elim)).trans hg2.chg (fun i hi => .inl hi)
              refine ⟨k + 1, acc ++ [⟨0, tm, false, ⟨([] : List UInt8).toArray⟩, false, ⟨vl.toArray⟩⟩], q6, by omega, ?_, by rw [List.length_append, HL2.out]; rfl, HD6.out, ?_, ?_, hv2, ?_⟩
              · rw [show ((m - (k + 1) : Nat) : Int) = ((m - k : Nat) : Int) - 1 by omega]
              · exact HR4.out.chg hup (fun h => by have := hvb _ h; omega) (fun h => by have := hvb _ h; omega)
              · unfold OwnR
                rw [List.length_append, List.flatMap_append]
                simpa using hown2
              · exact (hch.trans hc4 (fun i hi => .inl hi)).trans hup (fun i hi => .inr (hvb _ hi))
            case measure => simp [intOf]; omega
          · clear k4
            have hq6 : ∃ q6, q6 = q5 := ⟨_, rfl⟩
            obtain ⟨q6, hq6⟩ := hq6
            have HS1 : Hid (recF5 wText 0 tm false [] true q5 = recF6 0 tm false [] true [] q5) := rfl
            rw [HS1.out] at HS0
            rw [← hq6] at HR3 HS0
            clear hq6 HS1
            have k4 := hb3.cell (j := 4) rfl
            have HQ : Hid (recS wText false s1 = (⟨0, tm, false, ⟨([] : List UInt8).toArray⟩, true, ⟨([] : List UInt8).toArray⟩⟩, q6)) := HT0.out.symm.trans HS0.out
            have HD6 : Hid (recsL wText false m s3 [] = recsL wText false (m - (k + 1)) q6 (acc ++ [⟨0, tm, false, ⟨([] : List UInt8).toArray⟩, true, ⟨([] : List UInt8).toArray⟩⟩])) := by
              unfold Hid
              rw [HDD.out, show m - k = m - (k + 1) + 1 by omega, recsL_on hbs, HQ.out]
            have g0 := hb3.cell (j := 0) rfl
            have g1 := hb3.cell (j := 1) rfl
            have g2 := hb3.cell (j := 2) rfl
            have g3 := hb3.cell (j := 3) rfl
            have g4 := hb3.cell (j := 4) rfl
            have g5 := hb3.cell (j := 5) rfl
            have hown := ownsRow_chg HOW.out hc3 (fun i hi e => by have := hvb i hi; omega)
            have h63 : acc.length + 1 ≤ maxLen := by unfold maxLen; omega
            have hby : (acc.length + 1) * 64 ≤ 140737488355328 := by omega
            have hb1 := Box.new w3 (Rec.cells ⟨0, tm, false, ⟨([] : List UInt8).toArray⟩, true, ⟨([] : List UInt8).toArray⟩⟩) 99
            have HB1 := Lib.hid hb1
            have HH63 := Lib.hid h63
            have HBY := Lib.hid hby
            have HOW16 := Lib.hid hown
            have HL2 := Lib.hid hlen2
            clear hb1 h63 hby hown hlen2 HQ HS0 HT0 k4
            go_wp2_with (at_builtin; go_must (refine wpList_append_grew rfl (.tmp 45) (.tmp 47) 22 22 rfl recsT _ Tryd.underlying22 (by intro _; simp) _ _ _ rfl (HOW16.out.alloc _) _ 1 (Rec.cells ⟨0, tm, false, ⟨([] : List UInt8).toArray⟩, true, ⟨([] : List UInt8).toArray⟩⟩) rfl (Source.box HB1.out rfl (Rec.cells_one _)) HH63.out HBY.out ?_); intro v2 w2 hown2 hg2 _)
            go_wp2
            go_roundw
            case rel =>
              have hchA := (Chg.refl Nil w3).alloc (.cells (Rec.cells ⟨0, tm, false, ⟨([] : List UInt8).toArray⟩, true, ⟨([] : List UInt8).toArray⟩⟩).toArray 99)
              have hv2 : ∀ i, v2.ownBlock = some i → w.heap.size ≤ i := by
                intro i hi
                rcases hg2.own i hi with h | h
                · exact hvb i h
                · have h1 := hc3.size
                  simp at h
                  omega
              have hup : Chg (Own u5) w3 w2 := (hchA.weak (fun _ h => h.elim)).trans hg2.chg (fun i hi => .inl hi)
              refine ⟨k + 1, acc ++ [⟨0, tm, false, ⟨([] : List UInt8).toArray⟩, true, ⟨([] : List UInt8).toArray⟩⟩], q6, by omega, ?_, by rw [List.length_append, HL2.out]; rfl, HD6.out, ?_, ?_, hv2, ?_⟩
              · rw [show ((m - (k + 1) : Nat) : Int) = ((m - k : Nat) : Int) - 1 by omega]
              · exact HR3.out.chg hup (fun h => by have := hvb _ h; omega) (fun h => by have := hvb _ h; omega)
              · unfold OwnR
                rw [List.length_append, List.flatMap_append]
                simpa using hown2
              · exact (hch.trans hc3 (fun i hi => .inl hi)).trans hup (fun i hi => .inr (hvb _ hi))
            case measure => simp [intOf]; omega
        · go_wp2_with fail
          refine (rtext_st 60 g b q3 w2 HR2.out).mono ?_
          rintro e wa3 ⟨rfl, hca3, hra3⟩
          have hba3 := hb2.chg hca3 hpg
          have hcc3 := hc2.trans hca3 (fun i hi => .inl hi)
          have HRA3 := Lib.hid hra3
          clear hra3 HR2 hb2 hc2
          clear k2
          have HS1 : Hid (recF3 wText 0 tm true q3 = recF4 wText 0 tm true (wText 60 q3).1 (wText 60 q3).2) := rfl
          rw [HS1.out] at HS0
          clear HS1
          generalize (wText 60 q3).1 = key at *
          generalize (wText 60 q3).2 = q4 at *
          have cq := hba3.cell (j := 3) rfl
          have fq := hba3.free 3
          go_upto_region 12 with fail
          have hb3 := hba3.set 3 (.string ⟨key.toArray⟩)
          have hc3 := hcc3.setCell (p := ⟨p, 3, none⟩) (.inr hp) (.string ⟨key.toArray⟩)
          have hr3 := HRA3.out.chg ((Chg.refl (fun k => k = p) wa3).setCell (p := ⟨p, 3, none⟩) (.inl rfl) (.string ⟨key.toArray⟩)) hgp hbp
          have HR3 := Lib.hid hr3
          clear hba3 hcc3 hr3 HRA3 cq fq
          generalize wa3.setCell ⟨p, 3, none⟩ (.string ⟨key.toArray⟩) = w3 at *
          go_wp2_with fail
          refine (rtruth_st g b q4 w3 HR3.out).mono ?_
          rintro e wa4 ⟨rfl, hca4, hra4⟩
          have hba4 := hb3.chg hca4 hpg
          have hcc4 := hc3.trans hca4 (fun i hi => .inl hi)
          have HRA4 := Lib.hid hra4
          clear hra4 HR3 hb3 hc3
          have HS1 : Hid (recF4 wText 0 tm true key q4 = recF5 wText 0 tm true key (truthS q4).1 (truthS q4).2) := rfl
          rw [HS1.out] at HS0
          clear HS1
          generalize (truthS q4).1 = gn at *
          generalize (truthS q4).2 = q5 at *
          have cq := hba4.cell (j := 4) rfl
          have fq := hba4.free 4
          go_upto_region 13 with fail
          have hb4 := hba4.set 4 (.bool gn)
          have hc4 := hcc4.setCell (p := ⟨p, 4, none⟩) (.inr hp) (.bool gn)
          have hr4 := HRA4.out.chg ((Chg.refl (fun k => k = p) wa4).setCell (p := ⟨p, 4, none⟩) (.inl rfl) (.bool gn)) hgp hbp
          have HR4 := Lib.hid hr4
          clear hba4 hcc4 hr4 HRA4 cq fq
          generalize wa4.setCell ⟨p, 4, none⟩ (.bool gn) = w4 at *
          have k4 := hb4.cell (j := 4) rfl
          cases gn
          · go_wp2_with fail
            refine (rtext_st 500 g b q5 w4 HR4.out).mono ?_
            rintro e wa5 ⟨rfl, hca5, hra5⟩
            have hba5 := hb4.chg hca5 hpg
            have hcc5 := hc4.trans hca5 (fun i hi => .inl hi)
            have HRA5 := Lib.hid hra5
            clear hra5 HR4 hb4 hc4
            clear k4
            have HS1 : Hid (recF5 wText 0 tm true key false q5 = recF6 0 tm true key false (wText 500 q5).1 (wText 500 q5).2) := rfl
            rw [HS1.out] at HS0
            clear HS1
            generalize (wText 500 q5).1 = vl at *
            generalize (wText 500 q5).2 = q6 at *
            have cq := hba5.cell (j := 5) rfl
            have fq := hba5.free 5
            go_upto_region 15 with fail
            have hb5 := hba5.set 5 (.string ⟨vl.toArray⟩)
            have hc5 := hcc5.setCell (p := ⟨p, 5, none⟩) (.inr hp) (.string ⟨vl.toArray⟩)
            have hr5 := HRA5.out.chg ((Chg.refl (fun k => k = p) wa5).setCell (p := ⟨p, 5, none⟩) (.inl rfl) (.string ⟨vl.toArray⟩)) hgp hbp
            have HR5 := Lib.hid hr5
            clear hba5 hcc5 hr5 HRA5 cq fq
            generalize wa5.setCell ⟨p, 5, none⟩ (.string ⟨vl.toArray⟩) = w5 at *
            have HQ : Hid (recS wText false s1 = (⟨0, tm, true, ⟨key.toArray⟩, false, ⟨vl.toArray⟩⟩, q6)) := HT0.out.symm.trans HS0.out
            have HD6 : Hid (recsL wText false m s3 [] = recsL wText false (m - (k + 1)) q6 (acc ++ [⟨0, tm, true, ⟨key.toArray⟩, false, ⟨vl.toArray⟩⟩])) := by
              unfold Hid
              rw [HDD.out, show m - k = m - (k + 1) + 1 by omega, recsL_on hbs, HQ.out]
            have g0 := hb5.cell (j := 0) rfl
            have g1 := hb5.cell (j := 1) rfl
            have g2 := hb5.cell (j := 2) rfl
            have g3 := hb5.cell (j := 3) rfl
            have g4 := hb5.cell (j := 4) rfl
            have g5 := hb5.cell (j := 5) rfl
            have hown := ownsRow_chg HOW.out hc5 (fun i hi e => by have := hvb i hi; omega)
            have h63 : acc.length + 1 ≤ maxLen := by unfold maxLen; omega
            have hby : (acc.length + 1) * 64 ≤ 140737488355328 := by omega
            have hb1 := Box.new w5 (Rec.cells ⟨0, tm, true, ⟨key.toArray⟩, false, ⟨vl.toArray⟩⟩) 99
            have HB1 := Lib.hid hb1
            have HH63 := Lib.hid h63
            have HBY := Lib.hid hby
            have HOW16 := Lib.hid hown
            have HL2 := Lib.hid hlen2
            clear hb1 h63 hby hown hlen2 HQ HS0 HT0
            go_wp2_with (at_builtin; go_must (refine wpList_append_grew rfl (.tmp 45) (.tmp 47) 22 22 rfl recsT _ Tryd.underlying22 (by intro _; simp) _ _ _ rfl (HOW16.out.alloc _) _ 1 (Rec.cells ⟨0, tm, true, ⟨key.toArray⟩, false, ⟨vl.toArray⟩⟩) rfl (Source.box HB1.out rfl (Rec.cells_one _)) HH63.out HBY.out ?_); intro v2 w2 hown2 hg2 _)
            go_wp2
            go_roundw
            case rel =>
              have hchA := (Chg.refl Nil w5).alloc (.cells (Rec.cells ⟨0, tm, true, ⟨key.toArray⟩, false, ⟨vl.toArray⟩⟩).toArray 99)
              have hv2 : ∀ i, v2.ownBlock = some i → w.heap.size ≤ i := by
                intro i hi
                rcases hg2.own i hi with h | h
                · exact hvb i h
                · have h1 := hc5.size
                  simp at h
                  omega
              have hup : Chg (Own u5) w5 w2 := (hchA.weak (fun _ h => h.elim)).trans hg2.chg (fun i hi => .inl hi)
              refine ⟨k + 1, acc ++ [⟨0, tm, true, ⟨key.toArray⟩, false, ⟨vl.toArray⟩⟩], q6, by omega, ?_, by rw [List.length_append, HL2.out]; rfl, HD6.out, ?_, ?_, hv2, ?_⟩
              · rw [show ((m - (k + 1) : Nat) : Int) = ((m - k : Nat) : Int) - 1 by omega]
              · exact HR5.out.chg hup (fun h => by have := hvb _ h; omega) (fun h => by have := hvb _ h; omega)
              · unfold OwnR
                rw [List.length_append, List.flatMap_append]
                simpa using hown2
              · exact (hch.trans hc5 (fun i hi => .inl hi)).trans hup (fun i hi => .inr (hvb _ hi))
            case measure => simp [intOf]; omega
          · clear k4
            have hq6 : ∃ q6, q6 = q5 := ⟨_, rfl⟩
            obtain ⟨q6, hq6⟩ := hq6
            have HS1 : Hid (recF5 wText 0 tm true key true q5 = recF6 0 tm true key true [] q5) := rfl
            rw [HS1.out] at HS0
            rw [← hq6] at HR4 HS0
            clear hq6 HS1
            have k4 := hb4.cell (j := 4) rfl
            have HQ : Hid (recS wText false s1 = (⟨0, tm, true, ⟨key.toArray⟩, true, ⟨([] : List UInt8).toArray⟩⟩, q6)) := HT0.out.symm.trans HS0.out
            have HD6 : Hid (recsL wText false m s3 [] = recsL wText false (m - (k + 1)) q6 (acc ++ [⟨0, tm, true, ⟨key.toArray⟩, true, ⟨([] : List UInt8).toArray⟩⟩])) := by
              unfold Hid
              rw [HDD.out, show m - k = m - (k + 1) + 1 by omega, recsL_on hbs, HQ.out]
            have g0 := hb4.cell (j := 0) rfl
            have g1 := hb4.cell (j := 1) rfl
            have g2 := hb4.cell (j := 2) rfl
            have g3 := hb4.cell (j := 3) rfl
            have g4 := hb4.cell (j := 4) rfl
            have g5 := hb4.cell (j := 5) rfl
            have hown := ownsRow_chg HOW.out hc4 (fun i hi e => by have := hvb i hi; omega)
            have h63 : acc.length + 1 ≤ maxLen := by unfold maxLen; omega
            have hby : (acc.length + 1) * 64 ≤ 140737488355328 := by omega
            have hb1 := Box.new w4 (Rec.cells ⟨0, tm, true, ⟨key.toArray⟩, true, ⟨([] : List UInt8).toArray⟩⟩) 99
            have HB1 := Lib.hid hb1
            have HH63 := Lib.hid h63
            have HBY := Lib.hid hby
            have HOW16 := Lib.hid hown
            have HL2 := Lib.hid hlen2
            clear hb1 h63 hby hown hlen2 HQ HS0 HT0 k4
            go_wp2_with (at_builtin; go_must (refine wpList_append_grew rfl (.tmp 45) (.tmp 47) 22 22 rfl recsT _ Tryd.underlying22 (by intro _; simp) _ _ _ rfl (HOW16.out.alloc _) _ 1 (Rec.cells ⟨0, tm, true, ⟨key.toArray⟩, true, ⟨([] : List UInt8).toArray⟩⟩) rfl (Source.box HB1.out rfl (Rec.cells_one _)) HH63.out HBY.out ?_); intro v2 w2 hown2 hg2 _)
            go_wp2
            go_roundw
            case rel =>
              have hchA := (Chg.refl Nil w4).alloc (.cells (Rec.cells ⟨0, tm, true, ⟨key.toArray⟩, true, ⟨([] : List UInt8).toArray⟩⟩).toArray 99)
              have hv2 : ∀ i, v2.ownBlock = some i → w.heap.size ≤ i := by
                intro i hi
                rcases hg2.own i hi with h | h
                · exact hvb i h
                · have h1 := hc4.size
                  simp at h
                  omega
              have hup : Chg (Own u5) w4 w2 := (hchA.weak (fun _ h => h.elim)).trans hg2.chg (fun i hi => .inl hi)
              refine ⟨k + 1, acc ++ [⟨0, tm, true, ⟨key.toArray⟩, true, ⟨([] : List UInt8).toArray⟩⟩], q6, by omega, ?_, by rw [List.length_append, HL2.out]; rfl, HD6.out, ?_, ?_, hv2, ?_⟩
              · rw [show ((m - (k + 1) : Nat) : Int) = ((m - k : Nat) : Int) - 1 by omega]
              · exact HR4.out.chg hup (fun h => by have := hvb _ h; omega) (fun h => by have := hvb _ h; omega)
              · unfold OwnR
                rw [List.length_append, List.flatMap_append]
                simpa using hown2
              · exact (hch.trans hc4 (fun i hi => .inl hi)).trans hup (fun i hi => .inr (hvb _ hi))
            case measure => simp [intOf]; omega
      · obtain ⟨T0, hT0⟩ : ∃ T0, T0 = recS wText true s1 := ⟨_, rfl⟩
        have HT0 := Lib.hid hT0
        have HS0 := Lib.hid hT0
        clear hT0
        have hq0 : ∃ q0, q0 = s1 := ⟨_, rfl⟩
        obtain ⟨q0, hq0⟩ := hq0
        rw [← hq0] at HR0 HS0
        clear hq0
        go_wp2_with fail
        refine (rnum_st g b q0 w0 HR0.out).mono ?_
        rintro e wa1 ⟨rfl, hca1, hra1⟩
        have hba1 := hb0.chg hca1 hpg
        have hcc1 := hc0.trans hca1 (fun i hi => .inl hi)
        have HRA1 := Lib.hid hra1
        clear hra1 HR0 hb0 hc0
        have HS1 : Hid (recS wText true q0 = recF1 wText (numS q0).1 (numS q0).2) := rfl
        rw [HS1.out] at HS0
        clear HS1
        generalize (numS q0).1 = o at *
        generalize (numS q0).2 = q1 at *
        have cq := hba1.cell (j := 0) rfl
        have fq := hba1.free 0
        go_upto_region 8 with fail
        have hb1 := hba1.set 0 (.int .i64 (o : Nat))
        have hc1 := hcc1.setCell (p := ⟨p, 0, none⟩) (.inr hp) (.int .i64 (o : Nat))
        have hr1 := HRA1.out.chg ((Chg.refl (fun k => k = p) wa1).setCell (p := ⟨p, 0, none⟩) (.inl rfl) (.int .i64 (o : Nat))) hgp hbp
        have HR1 := Lib.hid hr1
        clear hba1 hcc1 hr1 HRA1 cq fq
        generalize wa1.setCell ⟨p, 0, none⟩ (.int .i64 (o : Nat)) = w1 at *
        go_wp2_with fail
        refine (rnum_st g b q1 w1 HR1.out).mono ?_
        rintro e wa2 ⟨rfl, hca2, hra2⟩
        have hba2 := hb1.chg hca2 hpg
        have hcc2 := hc1.trans hca2 (fun i hi => .inl hi)
        have HRA2 := Lib.hid hra2
        clear hra2 HR1 hb1 hc1
        have HS1 : Hid (recF1 wText o q1 = recF2 wText o (numS q1).1 (numS q1).2) := rfl
        rw [HS1.out] at HS0
        clear HS1
        generalize (numS q1).1 = tm at *
        generalize (numS q1).2 = q2 at *
        have cq := hba2.cell (j := 1) rfl
        have fq := hba2.free 1
        go_upto_region 9 with fail
        have hb2 := hba2.set 1 (.int .i64 (tm : Nat))
        have hc2 := hcc2.setCell (p := ⟨p, 1, none⟩) (.inr hp) (.int .i64 (tm : Nat))
        have hr2 := HRA2.out.chg ((Chg.refl (fun k => k = p) wa2).setCell (p := ⟨p, 1, none⟩) (.inl rfl) (.int .i64 (tm : Nat))) hgp hbp
        have HR2 := Lib.hid hr2
        clear hba2 hcc2 hr2 HRA2 cq fq
        generalize wa2.setCell ⟨p, 1, none⟩ (.int .i64 (tm : Nat)) = w2 at *
        go_wp2_with fail
        refine (rtruth_st g b q2 w2 HR2.out).mono ?_
        rintro e wa3 ⟨rfl, hca3, hra3⟩
        have hba3 := hb2.chg hca3 hpg
        have hcc3 := hc2.trans hca3 (fun i hi => .inl hi)
        have HRA3 := Lib.hid hra3
        clear hra3 HR2 hb2 hc2
        have HS1 : Hid (recF2 wText o tm q2 = recF3 wText o tm (truthS q2).1 (truthS q2).2) := rfl
        rw [HS1.out] at HS0
        clear HS1
        generalize (truthS q2).1 = kd at *
        generalize (truthS q2).2 = q3 at *
        have cq := hba3.cell (j := 2) rfl
        have fq := hba3.free 2
        go_upto_region 10 with fail
        have hb3 := hba3.set 2 (.bool kd)
        have hc3 := hcc3.setCell (p := ⟨p, 2, none⟩) (.inr hp) (.bool kd)
        have hr3 := HRA3.out.chg ((Chg.refl (fun k => k = p) wa3).setCell (p := ⟨p, 2, none⟩) (.inl rfl) (.bool kd)) hgp hbp
        have HR3 := Lib.hid hr3
        clear hba3 hcc3 hr3 HRA3 cq fq
        generalize wa3.setCell ⟨p, 2, none⟩ (.bool kd) = w3 at *
        have k2 := hb3.cell (j := 2) rfl
        cases kd
        · have hq4 : ∃ q4, q4 = q3 := ⟨_, rfl⟩
          obtain ⟨q4, hq4⟩ := hq4
          have HS1 : Hid (recF3 wText o tm false q3 = recF4 wText o tm false [] q3) := rfl
          rw [HS1.out] at HS0
          rw [← hq4] at HR3 HS0
          clear hq4 HS1
          go_wp2_with fail
          refine (rtruth_st g b q4 w3 HR3.out).mono ?_
          rintro e wa4 ⟨rfl, hca4, hra4⟩
          have hba4 := hb3.chg hca4 hpg
          have hcc4 := hc3.trans hca4 (fun i hi => .inl hi)
          have HRA4 := Lib.hid hra4
          clear hra4 HR3 hb3 hc3
          clear k2
          have HS1 : Hid (recF4 wText o tm false [] q4 = recF5 wText o tm false [] (truthS q4).1 (truthS q4).2) := rfl
          rw [HS1.out] at HS0
          clear HS1
          generalize (truthS q4).1 = gn at *
          generalize (truthS q4).2 = q5 at *
          have cq := hba4.cell (j := 4) rfl
          have fq := hba4.free 4
          go_upto_region 13 with fail
          have hb4 := hba4.set 4 (.bool gn)
          have hc4 := hcc4.setCell (p := ⟨p, 4, none⟩) (.inr hp) (.bool gn)
          have hr4 := HRA4.out.chg ((Chg.refl (fun k => k = p) wa4).setCell (p := ⟨p, 4, none⟩) (.inl rfl) (.bool gn)) hgp hbp
          have HR4 := Lib.hid hr4
          clear hba4 hcc4 hr4 HRA4 cq fq
          generalize wa4.setCell ⟨p, 4, none⟩ (.bool gn) = w4 at *
          have k4 := hb4.cell (j := 4) rfl
          cases gn
          · go_wp2_with fail
            refine (rtext_st 500 g b q5 w4 HR4.out).mono ?_
            rintro e wa5 ⟨rfl, hca5, hra5⟩
            have hba5 := hb4.chg hca5 hpg
            have hcc5 := hc4.trans hca5 (fun i hi => .inl hi)
            have HRA5 := Lib.hid hra5
            clear hra5 HR4 hb4 hc4
            clear k4
            have HS1 : Hid (recF5 wText o tm false [] false q5 = recF6 o tm false [] false (wText 500 q5).1 (wText 500 q5).2) := rfl
            rw [HS1.out] at HS0
            clear HS1
            generalize (wText 500 q5).1 = vl at *
            generalize (wText 500 q5).2 = q6 at *
            have cq := hba5.cell (j := 5) rfl
            have fq := hba5.free 5
            go_upto_region 15 with fail
            have hb5 := hba5.set 5 (.string ⟨vl.toArray⟩)
            have hc5 := hcc5.setCell (p := ⟨p, 5, none⟩) (.inr hp) (.string ⟨vl.toArray⟩)
            have hr5 := HRA5.out.chg ((Chg.refl (fun k => k = p) wa5).setCell (p := ⟨p, 5, none⟩) (.inl rfl) (.string ⟨vl.toArray⟩)) hgp hbp
            have HR5 := Lib.hid hr5
            clear hba5 hcc5 hr5 HRA5 cq fq
            generalize wa5.setCell ⟨p, 5, none⟩ (.string ⟨vl.toArray⟩) = w5 at *
            have HQ : Hid (recS wText true s1 = (⟨o, tm, false, ⟨([] : List UInt8).toArray⟩, false, ⟨vl.toArray⟩⟩, q6)) := HT0.out.symm.trans HS0.out
            have HD6 : Hid (recsL wText true m s3 [] = recsL wText true (m - (k + 1)) q6 (acc ++ [⟨o, tm, false, ⟨([] : List UInt8).toArray⟩, false, ⟨vl.toArray⟩⟩])) := by
              unfold Hid
              rw [HDD.out, show m - k = m - (k + 1) + 1 by omega, recsL_on hbs, HQ.out]
            have g0 := hb5.cell (j := 0) rfl
            have g1 := hb5.cell (j := 1) rfl
            have g2 := hb5.cell (j := 2) rfl
            have g3 := hb5.cell (j := 3) rfl
            have g4 := hb5.cell (j := 4) rfl
            have g5 := hb5.cell (j := 5) rfl
            have hown := ownsRow_chg HOW.out hc5 (fun i hi e => by have := hvb i hi; omega)
            have h63 : acc.length + 1 ≤ maxLen := by unfold maxLen; omega
            have hby : (acc.length + 1) * 64 ≤ 140737488355328 := by omega
            have hb1 := Box.new w5 (Rec.cells ⟨o, tm, false, ⟨([] : List UInt8).toArray⟩, false, ⟨vl.toArray⟩⟩) 99
            have HB1 := Lib.hid hb1
            have HH63 := Lib.hid h63
            have HBY := Lib.hid hby
            have HOW16 := Lib.hid hown
            have HL2 := Lib.hid hlen2
            clear hb1 h63 hby hown hlen2 HQ HS0 HT0
            go_wp2_with (at_builtin; go_must (refine wpList_append_grew rfl (.tmp 45) (.tmp 47) 22 22 rfl recsT _ Tryd.underlying22 (by intro _; simp) _ _ _ rfl (HOW16.out.alloc _) _ 1 (Rec.cells ⟨o, tm, false, ⟨([] : List UInt8).toArray⟩, false, ⟨vl.toArray⟩⟩) rfl (Source.box HB1.out rfl (Rec.cells_one _)) HH63.out HBY.out ?_); intro v2 w2 hown2 hg2 _)
            go_wp2
            go_roundw
            case rel =>
              have hchA := (Chg.refl Nil w5).alloc (.cells (Rec.cells ⟨o, tm, false, ⟨([] : List UInt8).toArray⟩, false, ⟨vl.toArray⟩⟩).toArray 99)
              have hv2 : ∀ i, v2.ownBlock = some i → w.heap.size ≤ i := by
                intro i hi
                rcases hg2.own i hi with h | h
                · exact hvb i h
                · have h1 := hc5.size
                  simp at h
                  omega
              have hup : Chg (Own u5) w5 w2 := (hchA.weak (fun _ h => h.elim)).trans hg2.chg (fun i hi => .inl hi)
              refine ⟨k + 1, acc ++ [⟨o, tm, false, ⟨([] : List UInt8).toArray⟩, false, ⟨vl.toArray⟩⟩], q6, by omega, ?_, by rw [List.length_append, HL2.out]; rfl, HD6.out, ?_, ?_, hv2, ?_⟩
              · rw [show ((m - (k + 1) : Nat) : Int) = ((m - k : Nat) : Int) - 1 by omega]
              · exact HR5.out.chg hup (fun h => by have := hvb _ h; omega) (fun h => by have := hvb _ h; omega)
              · unfold OwnR
                rw [List.length_append, List.flatMap_append]
                simpa using hown2
              · exact (hch.trans hc5 (fun i hi => .inl hi)).trans hup (fun i hi => .inr (hvb _ hi))
            case measure => simp [intOf]; omega
          · clear k4
            have hq6 : ∃ q6, q6 = q5 := ⟨_, rfl⟩
            obtain ⟨q6, hq6⟩ := hq6
            have HS1 : Hid (recF5 wText o tm false [] true q5 = recF6 o tm false [] true [] q5) := rfl
            rw [HS1.out] at HS0
            rw [← hq6] at HR4 HS0
            clear hq6 HS1
            have k4 := hb4.cell (j := 4) rfl
            have HQ : Hid (recS wText true s1 = (⟨o, tm, false, ⟨([] : List UInt8).toArray⟩, true, ⟨([] : List UInt8).toArray⟩⟩, q6)) := HT0.out.symm.trans HS0.out
            have HD6 : Hid (recsL wText true m s3 [] = recsL wText true (m - (k + 1)) q6 (acc ++ [⟨o, tm, false, ⟨([] : List UInt8).toArray⟩, true, ⟨([] : List UInt8).toArray⟩⟩])) := by
              unfold Hid
              rw [HDD.out, show m - k = m - (k + 1) + 1 by omega, recsL_on hbs, HQ.out]
            have g0 := hb4.cell (j := 0) rfl
            have g1 := hb4.cell (j := 1) rfl
            have g2 := hb4.cell (j := 2) rfl
            have g3 := hb4.cell (j := 3) rfl
            have g4 := hb4.cell (j := 4) rfl
            have g5 := hb4.cell (j := 5) rfl
            have hown := ownsRow_chg HOW.out hc4 (fun i hi e => by have := hvb i hi; omega)
            have h63 : acc.length + 1 ≤ maxLen := by unfold maxLen; omega
            have hby : (acc.length + 1) * 64 ≤ 140737488355328 := by omega
            have hb1 := Box.new w4 (Rec.cells ⟨o, tm, false, ⟨([] : List UInt8).toArray⟩, true, ⟨([] : List UInt8).toArray⟩⟩) 99
            have HB1 := Lib.hid hb1
            have HH63 := Lib.hid h63
            have HBY := Lib.hid hby
            have HOW16 := Lib.hid hown
            have HL2 := Lib.hid hlen2
            clear hb1 h63 hby hown hlen2 HQ HS0 HT0 k4
            go_wp2_with (at_builtin; go_must (refine wpList_append_grew rfl (.tmp 45) (.tmp 47) 22 22 rfl recsT _ Tryd.underlying22 (by intro _; simp) _ _ _ rfl (HOW16.out.alloc _) _ 1 (Rec.cells ⟨o, tm, false, ⟨([] : List UInt8).toArray⟩, true, ⟨([] : List UInt8).toArray⟩⟩) rfl (Source.box HB1.out rfl (Rec.cells_one _)) HH63.out HBY.out ?_); intro v2 w2 hown2 hg2 _)
            go_wp2
            go_roundw
            case rel =>
              have hchA := (Chg.refl Nil w4).alloc (.cells (Rec.cells ⟨o, tm, false, ⟨([] : List UInt8).toArray⟩, true, ⟨([] : List UInt8).toArray⟩⟩).toArray 99)
              have hv2 : ∀ i, v2.ownBlock = some i → w.heap.size ≤ i := by
                intro i hi
                rcases hg2.own i hi with h | h
                · exact hvb i h
                · have h1 := hc4.size
                  simp at h
                  omega
              have hup : Chg (Own u5) w4 w2 := (hchA.weak (fun _ h => h.elim)).trans hg2.chg (fun i hi => .inl hi)
              refine ⟨k + 1, acc ++ [⟨o, tm, false, ⟨([] : List UInt8).toArray⟩, true, ⟨([] : List UInt8).toArray⟩⟩], q6, by omega, ?_, by rw [List.length_append, HL2.out]; rfl, HD6.out, ?_, ?_, hv2, ?_⟩
              · rw [show ((m - (k + 1) : Nat) : Int) = ((m - k : Nat) : Int) - 1 by omega]
              · exact HR4.out.chg hup (fun h => by have := hvb _ h; omega) (fun h => by have := hvb _ h; omega)
              · unfold OwnR
                rw [List.length_append, List.flatMap_append]
                simpa using hown2
              · exact (hch.trans hc4 (fun i hi => .inl hi)).trans hup (fun i hi => .inr (hvb _ hi))
            case measure => simp [intOf]; omega
        · go_wp2_with fail
          refine (rtext_st 60 g b q3 w3 HR3.out).mono ?_
          rintro e wa4 ⟨rfl, hca4, hra4⟩
          have hba4 := hb3.chg hca4 hpg
          have hcc4 := hc3.trans hca4 (fun i hi => .inl hi)
          have HRA4 := Lib.hid hra4
          clear hra4 HR3 hb3 hc3
          clear k2
          have HS1 : Hid (recF3 wText o tm true q3 = recF4 wText o tm true (wText 60 q3).1 (wText 60 q3).2) := rfl
          rw [HS1.out] at HS0
          clear HS1
          generalize (wText 60 q3).1 = key at *
          generalize (wText 60 q3).2 = q4 at *
          have cq := hba4.cell (j := 3) rfl
          have fq := hba4.free 3
          go_upto_region 12 with fail
          have hb4 := hba4.set 3 (.string ⟨key.toArray⟩)
          have hc4 := hcc4.setCell (p := ⟨p, 3, none⟩) (.inr hp) (.string ⟨key.toArray⟩)
          have hr4 := HRA4.out.chg ((Chg.refl (fun k => k = p) wa4).setCell (p := ⟨p, 3, none⟩) (.inl rfl) (.string ⟨key.toArray⟩)) hgp hbp
          have HR4 := Lib.hid hr4
          clear hba4 hcc4 hr4 HRA4 cq fq
          generalize wa4.setCell ⟨p, 3, none⟩ (.string ⟨key.toArray⟩) = w4 at *
          go_wp2_with fail
          refine (rtruth_st g b q4 w4 HR4.out).mono ?_
          rintro e wa5 ⟨rfl, hca5, hra5⟩
          have hba5 := hb4.chg hca5 hpg
          have hcc5 := hc4.trans hca5 (fun i hi => .inl hi)
          have HRA5 := Lib.hid hra5
          clear hra5 HR4 hb4 hc4
          have HS1 : Hid (recF4 wText o tm true key q4 = recF5 wText o tm true key (truthS q4).1 (truthS q4).2) := rfl
          rw [HS1.out] at HS0
          clear HS1
          generalize (truthS q4).1 = gn at *
          generalize (truthS q4).2 = q5 at *
          have cq := hba5.cell (j := 4) rfl
          have fq := hba5.free 4
          go_upto_region 13 with fail
          have hb5 := hba5.set 4 (.bool gn)
          have hc5 := hcc5.setCell (p := ⟨p, 4, none⟩) (.inr hp) (.bool gn)
          have hr5 := HRA5.out.chg ((Chg.refl (fun k => k = p) wa5).setCell (p := ⟨p, 4, none⟩) (.inl rfl) (.bool gn)) hgp hbp
          have HR5 := Lib.hid hr5
          clear hba5 hcc5 hr5 HRA5 cq fq
          generalize wa5.setCell ⟨p, 4, none⟩ (.bool gn) = w5 at *
          have k4 := hb5.cell (j := 4) rfl
          cases gn
          · go_wp2_with fail
            refine (rtext_st 500 g b q5 w5 HR5.out).mono ?_
            rintro e wa6 ⟨rfl, hca6, hra6⟩
            have hba6 := hb5.chg hca6 hpg
            have hcc6 := hc5.trans hca6 (fun i hi => .inl hi)
            have HRA6 := Lib.hid hra6
            clear hra6 HR5 hb5 hc5
            clear k4
            have HS1 : Hid (recF5 wText o tm true key false q5 = recF6 o tm true key false (wText 500 q5).1 (wText 500 q5).2) := rfl
            rw [HS1.out] at HS0
            clear HS1
            generalize (wText 500 q5).1 = vl at *
            generalize (wText 500 q5).2 = q6 at *
            have cq := hba6.cell (j := 5) rfl
            have fq := hba6.free 5
            go_upto_region 15 with fail
            have hb6 := hba6.set 5 (.string ⟨vl.toArray⟩)
            have hc6 := hcc6.setCell (p := ⟨p, 5, none⟩) (.inr hp) (.string ⟨vl.toArray⟩)
            have hr6 := HRA6.out.chg ((Chg.refl (fun k => k = p) wa6).setCell (p := ⟨p, 5, none⟩) (.inl rfl) (.string ⟨vl.toArray⟩)) hgp hbp
            have HR6 := Lib.hid hr6
            clear hba6 hcc6 hr6 HRA6 cq fq
            generalize wa6.setCell ⟨p, 5, none⟩ (.string ⟨vl.toArray⟩) = w6 at *
            have HQ : Hid (recS wText true s1 = (⟨o, tm, true, ⟨key.toArray⟩, false, ⟨vl.toArray⟩⟩, q6)) := HT0.out.symm.trans HS0.out
            have HD6 : Hid (recsL wText true m s3 [] = recsL wText true (m - (k + 1)) q6 (acc ++ [⟨o, tm, true, ⟨key.toArray⟩, false, ⟨vl.toArray⟩⟩])) := by
              unfold Hid
              rw [HDD.out, show m - k = m - (k + 1) + 1 by omega, recsL_on hbs, HQ.out]
            have g0 := hb6.cell (j := 0) rfl
            have g1 := hb6.cell (j := 1) rfl
            have g2 := hb6.cell (j := 2) rfl
            have g3 := hb6.cell (j := 3) rfl
            have g4 := hb6.cell (j := 4) rfl
            have g5 := hb6.cell (j := 5) rfl
            have hown := ownsRow_chg HOW.out hc6 (fun i hi e => by have := hvb i hi; omega)
            have h63 : acc.length + 1 ≤ maxLen := by unfold maxLen; omega
            have hby : (acc.length + 1) * 64 ≤ 140737488355328 := by omega
            have hb1 := Box.new w6 (Rec.cells ⟨o, tm, true, ⟨key.toArray⟩, false, ⟨vl.toArray⟩⟩) 99
            have HB1 := Lib.hid hb1
            have HH63 := Lib.hid h63
            have HBY := Lib.hid hby
            have HOW16 := Lib.hid hown
            have HL2 := Lib.hid hlen2
            clear hb1 h63 hby hown hlen2 HQ HS0 HT0
            go_wp2_with (at_builtin; go_must (refine wpList_append_grew rfl (.tmp 45) (.tmp 47) 22 22 rfl recsT _ Tryd.underlying22 (by intro _; simp) _ _ _ rfl (HOW16.out.alloc _) _ 1 (Rec.cells ⟨o, tm, true, ⟨key.toArray⟩, false, ⟨vl.toArray⟩⟩) rfl (Source.box HB1.out rfl (Rec.cells_one _)) HH63.out HBY.out ?_); intro v2 w2 hown2 hg2 _)
            go_wp2
            go_roundw
            case rel =>
              have hchA := (Chg.refl Nil w6).alloc (.cells (Rec.cells ⟨o, tm, true, ⟨key.toArray⟩, false, ⟨vl.toArray⟩⟩).toArray 99)
              have hv2 : ∀ i, v2.ownBlock = some i → w.heap.size ≤ i := by
                intro i hi
                rcases hg2.own i hi with h | h
                · exact hvb i h
                · have h1 := hc6.size
                  simp at h
                  omega
              have hup : Chg (Own u5) w6 w2 := (hchA.weak (fun _ h => h.elim)).trans hg2.chg (fun i hi => .inl hi)
              refine ⟨k + 1, acc ++ [⟨o, tm, true, ⟨key.toArray⟩, false, ⟨vl.toArray⟩⟩], q6, by omega, ?_, by rw [List.length_append, HL2.out]; rfl, HD6.out, ?_, ?_, hv2, ?_⟩
              · rw [show ((m - (k + 1) : Nat) : Int) = ((m - k : Nat) : Int) - 1 by omega]
              · exact HR6.out.chg hup (fun h => by have := hvb _ h; omega) (fun h => by have := hvb _ h; omega)
              · unfold OwnR
                rw [List.length_append, List.flatMap_append]
                simpa using hown2
              · exact (hch.trans hc6 (fun i hi => .inl hi)).trans hup (fun i hi => .inr (hvb _ hi))
            case measure => simp [intOf]; omega
          · clear k4
            have hq6 : ∃ q6, q6 = q5 := ⟨_, rfl⟩
            obtain ⟨q6, hq6⟩ := hq6
            have HS1 : Hid (recF5 wText o tm true key true q5 = recF6 o tm true key true [] q5) := rfl
            rw [HS1.out] at HS0
            rw [← hq6] at HR5 HS0
            clear hq6 HS1
            have k4 := hb5.cell (j := 4) rfl
            have HQ : Hid (recS wText true s1 = (⟨o, tm, true, ⟨key.toArray⟩, true, ⟨([] : List UInt8).toArray⟩⟩, q6)) := HT0.out.symm.trans HS0.out
            have HD6 : Hid (recsL wText true m s3 [] = recsL wText true (m - (k + 1)) q6 (acc ++ [⟨o, tm, true, ⟨key.toArray⟩, true, ⟨([] : List UInt8).toArray⟩⟩])) := by
              unfold Hid
              rw [HDD.out, show m - k = m - (k + 1) + 1 by omega, recsL_on hbs, HQ.out]
            have g0 := hb5.cell (j := 0) rfl
            have g1 := hb5.cell (j := 1) rfl
            have g2 := hb5.cell (j := 2) rfl
            have g3 := hb5.cell (j := 3) rfl
            have g4 := hb5.cell (j := 4) rfl
            have g5 := hb5.cell (j := 5) rfl
            have hown := ownsRow_chg HOW.out hc5 (fun i hi e => by have := hvb i hi; omega)
            have h63 : acc.length + 1 ≤ maxLen := by unfold maxLen; omega
            have hby : (acc.length + 1) * 64 ≤ 140737488355328 := by omega
            have hb1 := Box.new w5 (Rec.cells ⟨o, tm, true, ⟨key.toArray⟩, true, ⟨([] : List UInt8).toArray⟩⟩) 99
            have HB1 := Lib.hid hb1
            have HH63 := Lib.hid h63
            have HBY := Lib.hid hby
            have HOW16 := Lib.hid hown
            have HL2 := Lib.hid hlen2
            clear hb1 h63 hby hown hlen2 HQ HS0 HT0 k4
            go_wp2_with (at_builtin; go_must (refine wpList_append_grew rfl (.tmp 45) (.tmp 47) 22 22 rfl recsT _ Tryd.underlying22 (by intro _; simp) _ _ _ rfl (HOW16.out.alloc _) _ 1 (Rec.cells ⟨o, tm, true, ⟨key.toArray⟩, true, ⟨([] : List UInt8).toArray⟩⟩) rfl (Source.box HB1.out rfl (Rec.cells_one _)) HH63.out HBY.out ?_); intro v2 w2 hown2 hg2 _)
            go_wp2
            go_roundw
            case rel =>
              have hchA := (Chg.refl Nil w5).alloc (.cells (Rec.cells ⟨o, tm, true, ⟨key.toArray⟩, true, ⟨([] : List UInt8).toArray⟩⟩).toArray 99)
              have hv2 : ∀ i, v2.ownBlock = some i → w.heap.size ≤ i := by
                intro i hi
                rcases hg2.own i hi with h | h
                · exact hvb i h
                · have h1 := hc5.size
                  simp at h
                  omega
              have hup : Chg (Own u5) w5 w2 := (hchA.weak (fun _ h => h.elim)).trans hg2.chg (fun i hi => .inl hi)
              refine ⟨k + 1, acc ++ [⟨o, tm, true, ⟨key.toArray⟩, true, ⟨([] : List UInt8).toArray⟩⟩], q6, by omega, ?_, by rw [List.length_append, HL2.out]; rfl, HD6.out, ?_, ?_, hv2, ?_⟩
              · rw [show ((m - (k + 1) : Nat) : Int) = ((m - k : Nat) : Int) - 1 by omega]
              · exact HR5.out.chg hup (fun h => by have := hvb _ h; omega) (fun h => by have := hvb _ h; omega)
              · unfold OwnR
                rw [List.length_append, List.flatMap_append]
                simpa using hown2
              · exact (hch.trans hc5 (fun i hi => .inl hi)).trans hup (fun i hi => .inr (hvb _ hi))
            case measure => simp [intOf]; omega
    · have hfin : recsL wText wi m s3 [] = (acc, s1) := by
        rw [HD]
        by_cases hb : s1.2 = true
        · exact recsL_bad hb
        · have : m - k = 0 := by
            by_cases hk2 : k < m
            · exact absurd ⟨hk2, by simpa using hb⟩ hgo
            · omega
          rw [this]; rfl
      have HFI : Hid (recsS wText wi s = (acc, s1)) := by unfold Hid; rw [HF.out, hfin]
      have c1 := hr.choose_spec.choose_spec.c1
      have HR := Lib.hid hr
      have HOW := Lib.hid hown
      have HGO : Hid (¬ (k < m ∧ s1.2 = false)) := hgo
      clear hfin HD hmk hr hown hgo
      have hend : Chg (fun k => k = g) w wr ∧ RdS wr g b (recsS wText wi s).2 ∧ OwnR 99 wr u5 (recsS wText wi s).1 ∧ ∀ k, u5.ownBlock = some k → w.heap.size ≤ k := by
        rw [HFI.out]; exact ⟨hch, HR.out, HOW.out, hvb⟩
      have HEND := Lib.hid hend
      clear hend
      by_cases hkm : k < m
      · have hbad : s1.2 = true := by cases h : s1.2 with | true => rfl | false => exact absurd ⟨hkm, h⟩ HGO.out
        rw [hbad] at c1
        have hpos : (0 : Int) < ((m - k : Nat) : Int) := by omega
        clear hbad
        go_wp2_with fail
        go_ret
        exact ⟨u5, rfl, HEND.out⟩
      · have hpos : ¬ (0 : Int) < ((m - k : Nat) : Int) := by omega
        go_wp2_with fail
        go_ret
        exact ⟨u5, rfl, HEND.out⟩

set_option maxHeartbeats 4000000 in
set_option maxRecDepth 100000 in
theorem trecs_st (wi : Bool) (g b : Nat) (s : St) (w : World) (hbw : b < w.heap.size) (h : RdS w g b s) :
    Calls Tryd.prog 38 #[.pointer (some ⟨g, 0, none⟩), .bool wi] w fun e w' => ∃ v, e = .returned v ∧ Chg (fun k => k = g) w w' ∧ RdS w' g b (recsS tkText wi s).2 ∧ OwnR 99 w' v (recsS tkText wi s).1 ∧ ∀ k, v.ownBlock = some k → w.heap.size ≤ k := by
  have hgw : g < w.heap.size := by obtain ⟨_, _, h⟩ := h; exact World.block_lt_of_cell? _ _ h.c0
  have HF : Hid (recsS tkText wi s = recsL tkText wi (numS s).1 (numS s).2 []) := rfl
  have hn := numS_le s
  have hrn := tnum_st g b s w h
  have HRN := Lib.hid hrn
  clear hrn h
  go_enter Tryd.func38, Tryd.ntmps38
  go_wp2_with fail
  refine HRN.out.mono ?_
  rintro e wz ⟨rfl, hcz, hrz⟩
  generalize (numS s).1 = m at *
  generalize (numS s).2 = s3 at *
  clear HRN
  go_wp2_with fail
  go_loopw [5, 6] (fun v i wr => ∃ (k : Nat) (acc : List Rec) (s1 : St), k ≤ m ∧ i = .int .i64 ((m - k : Nat) : Int) ∧ acc.length = k ∧ recsL tkText wi m s3 [] = recsL tkText wi (m - k) s1 acc ∧ RdS wr g b s1 ∧
    OwnR 99 wr v acc ∧ (∀ i, v.ownBlock = some i → w.heap.size ≤ i) ∧ Chg (fun k => k = g) w wr) (fun _ i _ => (intOf i).toNat)
  case atStart => exact ⟨0, [], s3, Nat.zero_le _, rfl, rfl, rfl, hrz, OwnR.nil _ _, by simp [Value.ownBlock], hcz⟩
  case round =>
    obtain ⟨k, acc, s1, hk, rfl, hlen2, HD, hr, hown, hvb, hch⟩ := hrel
    clear hrz hcz
    have hmk : ((m - k : Nat) : Int) = (m : Int) - k := by omega
    by_cases hgo : k < m ∧ s1.2 = false
    · obtain ⟨hkm, hb0⟩ := hgo
      have c1 := hr.choose_spec.choose_spec.c1
      rw [hb0] at c1
      have hpos : (0 : Int) < ((m - k : Nat) : Int) := by omega
      have HOW := Lib.hid hown
      have HDD := Lib.hid HD
      have hwz : w.heap.size ≤ wr.heap.size := hch.size
      have hbA := Box.new wr [.int .i64 0, .int .i64 0, .bool false, .string ⟨#[]⟩, .bool false, .string ⟨#[]⟩] 99
      have halA := (Chg.refl Nil wr).alloc (.cells #[.int .i64 0, .int .i64 0, .bool false, .string ⟨#[]⟩, .bool false, .string ⟨#[]⟩] 99)
      have hr0 := hr.chg halA (fun h => h) (fun h => h)
      have HR0 := Lib.hid hr0
      clear hown HD hmk hr0 hr
      go_upto_region 6 with fail
      clear c1 hpos
      generalize wr.alloc (.cells #[.int .i64 0, .int .i64 0, .bool false, .string ⟨#[]⟩, .bool false, .string ⟨#[]⟩] 99) = w0 at *
      have hp : wr.heap.size ≤ wr.heap.size := Nat.le_refl _
      obtain ⟨p, hpp⟩ : ∃ p, p = wr.heap.size := ⟨_, rfl⟩
      rw [← hpp] at hbA ⊢
      have hp : wr.heap.size ≤ p := by omega
      have hpg : ¬ (p = g) := by omega
      have hgp : ¬ (g = p) := by omega
      have hbp : ¬ (b = p) := by omega
      have hbz : Box w0 p [.int .i64 0, .int .i64 0, .bool false, .string ⟨#[]⟩, .bool false, .string ⟨#[]⟩] 99 := hbA
      have hc0 : Chg (fun k => k = g) wr w0 := halA.weak (fun _ h => h.elim)
      have hbs : s1.2 = false := hb0
      have hb0 := hbz
      clear hpp hbA halA
      cases wi
      · obtain ⟨T0, hT0⟩ : ∃ T0, T0 = recS tkText false s1 := ⟨_, rfl⟩
        have HT0 := Lib.hid hT0
        have HS0 := Lib.hid hT0
        clear hT0
        have hq0 : ∃ q0, q0 = s1 := ⟨_, rfl⟩
        obtain ⟨q0, hq0⟩ := hq0
        rw [← hq0] at HR0 HS0
        clear hq0
        have hq1 : ∃ q1, q1 = q0 := ⟨_, rfl⟩
        obtain ⟨q1, hq1⟩ := hq1
        have HS1 : Hid (recS tkText false q0 = recF1 tkText 0 q0) := rfl
        rw [HS1.out] at HS0
        rw [← hq1] at HR0 HS0
        clear hq1 HS1
        go_wp2_with fail
        refine (tnum_st g b q1 w0 HR0.out).mono ?_
        rintro e wa1 ⟨rfl, hca1, hra1⟩
        have hba1 := hb0.chg hca1 hpg
        have hcc1 := hc0.trans hca1 (fun i hi => .inl hi)
        have HRA1 := Lib.hid hra1
        clear hra1 HR0 hb0 hc0
        have HS1 : Hid (recF1 tkText 0 q1 = recF2 tkText 0 (numS q1).1 (numS q1).2) := rfl
        rw [HS1.out] at HS0
        clear HS1
        generalize (numS q1).1 = tm at *
        generalize (numS q1).2 = q2 at *
        have cq := hba1.cell (j := 1) rfl
        have fq := hba1.free 1
        go_upto_region 9 with fail
        have hb1 := hba1.set 1 (.int .i64 (tm : Nat))
        have hc1 := hcc1.setCell (p := ⟨p, 1, none⟩) (.inr hp) (.int .i64 (tm : Nat))
        have hr1 := HRA1.out.chg ((Chg.refl (fun k => k = p) wa1).setCell (p := ⟨p, 1, none⟩) (.inl rfl) (.int .i64 (tm : Nat))) hgp hbp
        have HR1 := Lib.hid hr1
        clear hba1 hcc1 hr1 HRA1 cq fq
        generalize wa1.setCell ⟨p, 1, none⟩ (.int .i64 (tm : Nat)) = w1 at *
        go_wp2_with fail
        refine (ttruth_st g b q2 w1 HR1.out).mono ?_
        rintro e wa2 ⟨rfl, hca2, hra2⟩
        have hba2 := hb1.chg hca2 hpg
        have hcc2 := hc1.trans hca2 (fun i hi => .inl hi)
        have HRA2 := Lib.hid hra2
        clear hra2 HR1 hb1 hc1
        have HS1 : Hid (recF2 tkText 0 tm q2 = recF3 tkText 0 tm (truthS q2).1 (truthS q2).2) := rfl
        rw [HS1.out] at HS0
        clear HS1
        generalize (truthS q2).1 = kd at *
        generalize (truthS q2).2 = q3 at *
        have cq := hba2.cell (j := 2) rfl
        have fq := hba2.free 2
        go_upto_region 10 with fail
        have hb2 := hba2.set 2 (.bool kd)
        have hc2 := hcc2.setCell (p := ⟨p, 2, none⟩) (.inr hp) (.bool kd)
        have hr2 := HRA2.out.chg ((Chg.refl (fun k => k = p) wa2).setCell (p := ⟨p, 2, none⟩) (.inl rfl) (.bool kd)) hgp hbp
        have HR2 := Lib.hid hr2
        clear hba2 hcc2 hr2 HRA2 cq fq
        generalize wa2.setCell ⟨p, 2, none⟩ (.bool kd) = w2 at *
        have k2 := hb2.cell (j := 2) rfl
        cases kd
        · have hq4 : ∃ q4, q4 = q3 := ⟨_, rfl⟩
          obtain ⟨q4, hq4⟩ := hq4
          have HS1 : Hid (recF3 tkText 0 tm false q3 = recF4 tkText 0 tm false [] q3) := rfl
          rw [HS1.out] at HS0
          rw [← hq4] at HR2 HS0
          clear hq4 HS1
          go_wp2_with fail
          refine (ttruth_st g b q4 w2 HR2.out).mono ?_
          rintro e wa3 ⟨rfl, hca3, hra3⟩
          have hba3 := hb2.chg hca3 hpg
          have hcc3 := hc2.trans hca3 (fun i hi => .inl hi)
          have HRA3 := Lib.hid hra3
          clear hra3 HR2 hb2 hc2
          clear k2
          have HS1 : Hid (recF4 tkText 0 tm false [] q4 = recF5 tkText 0 tm false [] (truthS q4).1 (truthS q4).2) := rfl
          rw [HS1.out] at HS0
          clear HS1
          generalize (truthS q4).1 = gn at *
          generalize (truthS q4).2 = q5 at *
          have cq := hba3.cell (j := 4) rfl
          have fq := hba3.free 4
          go_upto_region 13 with fail
          have hb3 := hba3.set 4 (.bool gn)
          have hc3 := hcc3.setCell (p := ⟨p, 4, none⟩) (.inr hp) (.bool gn)
          have hr3 := HRA3.out.chg ((Chg.refl (fun k => k = p) wa3).setCell (p := ⟨p, 4, none⟩) (.inl rfl) (.bool gn)) hgp hbp
          have HR3 := Lib.hid hr3
          clear hba3 hcc3 hr3 HRA3 cq fq
          generalize wa3.setCell ⟨p, 4, none⟩ (.bool gn) = w3 at *
          have k4 := hb3.cell (j := 4) rfl
          cases gn
          · go_wp2_with fail
            refine (ttext_st 500 g b q5 w3 HR3.out).mono ?_
            rintro e wa4 ⟨rfl, hca4, hra4⟩
            have hba4 := hb3.chg hca4 hpg
            have hcc4 := hc3.trans hca4 (fun i hi => .inl hi)
            have HRA4 := Lib.hid hra4
            clear hra4 HR3 hb3 hc3
            clear k4
            have HS1 : Hid (recF5 tkText 0 tm false [] false q5 = recF6 0 tm false [] false (tkText 500 q5).1 (tkText 500 q5).2) := rfl
            rw [HS1.out] at HS0
            clear HS1
            generalize (tkText 500 q5).1 = vl at *
            generalize (tkText 500 q5).2 = q6 at *
            have cq := hba4.cell (j := 5) rfl
            have fq := hba4.free 5
            go_upto_region 15 with fail
            have hb4 := hba4.set 5 (.string ⟨vl.toArray⟩)
            have hc4 := hcc4.setCell (p := ⟨p, 5, none⟩) (.inr hp) (.string ⟨vl.toArray⟩)
            have hr4 := HRA4.out.chg ((Chg.refl (fun k => k = p) wa4).setCell (p := ⟨p, 5, none⟩) (.inl rfl) (.string ⟨vl.toArray⟩)) hgp hbp
            have HR4 := Lib.hid hr4
            clear hba4 hcc4 hr4 HRA4 cq fq
            generalize wa4.setCell ⟨p, 5, none⟩ (.string ⟨vl.toArray⟩) = w4 at *
            have HQ : Hid (recS tkText false s1 = (⟨0, tm, false, ⟨([] : List UInt8).toArray⟩, false, ⟨vl.toArray⟩⟩, q6)) := HT0.out.symm.trans HS0.out
            have HD6 : Hid (recsL tkText false m s3 [] = recsL tkText false (m - (k + 1)) q6 (acc ++ [⟨0, tm, false, ⟨([] : List UInt8).toArray⟩, false, ⟨vl.toArray⟩⟩])) := by
              unfold Hid
              rw [HDD.out, show m - k = m - (k + 1) + 1 by omega, recsL_on hbs, HQ.out]
            have g0 := hb4.cell (j := 0) rfl
            have g1 := hb4.cell (j := 1) rfl
            have g2 := hb4.cell (j := 2) rfl
            have g3 := hb4.cell (j := 3) rfl
            have g4 := hb4.cell (j := 4) rfl
            have g5 := hb4.cell (j := 5) rfl
            have hown := ownsRow_chg HOW.out hc4 (fun i hi e => by have := hvb i hi; omega)
            have h63 : acc.length + 1 ≤ maxLen := by unfold maxLen; omega
            have hby : (acc.length + 1) * 64 ≤ 140737488355328 := by omega
            have hb1 := Box.new w4 (Rec.cells ⟨0, tm, false, ⟨([] : List UInt8).toArray⟩, false, ⟨vl.toArray⟩⟩) 99
            have HB1 := Lib.hid hb1
            have HH63 := Lib.hid h63
            have HBY := Lib.hid hby
            have HOW16 := Lib.hid hown
            have HL2 := Lib.hid hlen2
            clear hb1 h63 hby hown hlen2 HQ HS0 HT0
            go_wp2_with (at_builtin; go_must (refine wpList_append_grew rfl (.tmp 46) (.tmp 48) 22 22 rfl recsT _ Tryd.underlying22 (by intro _; simp) _ _ _ rfl (HOW16.out.alloc _) _ 1 (Rec.cells ⟨0, tm, false, ⟨([] : List UInt8).toArray⟩, false, ⟨vl.toArray⟩⟩) rfl (Source.box HB1.out rfl (Rec.cells_one _)) HH63.out HBY.out ?_); intro v2 w2 hown2 hg2 _)
            go_wp2
            go_roundw
            case rel =>
              have hchA := (Chg.refl Nil w4).alloc (.cells (Rec.cells ⟨0, tm, false, ⟨([] : List UInt8).toArray⟩, false, ⟨vl.toArray⟩⟩).toArray 99)
              have hv2 : ∀ i, v2.ownBlock = some i → w.heap.size ≤ i := by
                intro i hi
                rcases hg2.own i hi with h | h
                · exact hvb i h
                · have h1 := hc4.size
                  simp at h
                  omega
              have hup : Chg (Own u5) w4 w2 := (hchA.weak (fun _ h => h.elim)).trans hg2.chg (fun i hi => .inl hi)
              refine ⟨k + 1, acc ++ [⟨0, tm, false, ⟨([] : List UInt8).toArray⟩, false, ⟨vl.toArray⟩⟩], q6, by omega, ?_, by rw [List.length_append, HL2.out]; rfl, HD6.out, ?_, ?_, hv2, ?_⟩
              · rw [show ((m - (k + 1) : Nat) : Int) = ((m - k : Nat) : Int) - 1 by omega]
              · exact HR4.out.chg hup (fun h => by have := hvb _ h; omega) (fun h => by have := hvb _ h; omega)
              · unfold OwnR
                rw [List.length_append, List.flatMap_append]
                simpa using hown2
              · exact (hch.trans hc4 (fun i hi => .inl hi)).trans hup (fun i hi => .inr (hvb _ hi))
            case measure => simp [intOf]; omega
          · clear k4
            have hq6 : ∃ q6, q6 = q5 := ⟨_, rfl⟩
            obtain ⟨q6, hq6⟩ := hq6
            have HS1 : Hid (recF5 tkText 0 tm false [] true q5 = recF6 0 tm false [] true [] q5) := rfl
            rw [HS1.out] at HS0
            rw [← hq6] at HR3 HS0
            clear hq6 HS1
            have k4 := hb3.cell (j := 4) rfl
            have HQ : Hid (recS tkText false s1 = (⟨0, tm, false, ⟨([] : List UInt8).toArray⟩, true, ⟨([] : List UInt8).toArray⟩⟩, q6)) := HT0.out.symm.trans HS0.out
            have HD6 : Hid (recsL tkText false m s3 [] = recsL tkText false (m - (k + 1)) q6 (acc ++ [⟨0, tm, false, ⟨([] : List UInt8).toArray⟩, true, ⟨([] : List UInt8).toArray⟩⟩])) := by
              unfold Hid
              rw [HDD.out, show m - k = m - (k + 1) + 1 by omega, recsL_on hbs, HQ.out]
            have g0 := hb3.cell (j := 0) rfl
            have g1 := hb3.cell (j := 1) rfl
            have g2 := hb3.cell (j := 2) rfl
            have g3 := hb3.cell (j := 3) rfl
            have g4 := hb3.cell (j := 4) rfl
            have g5 := hb3.cell (j := 5) rfl
            have hown := ownsRow_chg HOW.out hc3 (fun i hi e => by have := hvb i hi; omega)
            have h63 : acc.length + 1 ≤ maxLen := by unfold maxLen; omega
            have hby : (acc.length + 1) * 64 ≤ 140737488355328 := by omega
            have hb1 := Box.new w3 (Rec.cells ⟨0, tm, false, ⟨([] : List UInt8).toArray⟩, true, ⟨([] : List UInt8).toArray⟩⟩) 99
            have HB1 := Lib.hid hb1
            have HH63 := Lib.hid h63
            have HBY := Lib.hid hby
            have HOW16 := Lib.hid hown
            have HL2 := Lib.hid hlen2
            clear hb1 h63 hby hown hlen2 HQ HS0 HT0 k4
            go_wp2_with (at_builtin; go_must (refine wpList_append_grew rfl (.tmp 46) (.tmp 48) 22 22 rfl recsT _ Tryd.underlying22 (by intro _; simp) _ _ _ rfl (HOW16.out.alloc _) _ 1 (Rec.cells ⟨0, tm, false, ⟨([] : List UInt8).toArray⟩, true, ⟨([] : List UInt8).toArray⟩⟩) rfl (Source.box HB1.out rfl (Rec.cells_one _)) HH63.out HBY.out ?_); intro v2 w2 hown2 hg2 _)
            go_wp2
            go_roundw
            case rel =>
              have hchA := (Chg.refl Nil w3).alloc (.cells (Rec.cells ⟨0, tm, false, ⟨([] : List UInt8).toArray⟩, true, ⟨([] : List UInt8).toArray⟩⟩).toArray 99)
              have hv2 : ∀ i, v2.ownBlock = some i → w.heap.size ≤ i := by
                intro i hi
                rcases hg2.own i hi with h | h
                · exact hvb i h
                · have h1 := hc3.size
                  simp at h
                  omega
              have hup : Chg (Own u5) w3 w2 := (hchA.weak (fun _ h => h.elim)).trans hg2.chg (fun i hi => .inl hi)
              refine ⟨k + 1, acc ++ [⟨0, tm, false, ⟨([] : List UInt8).toArray⟩, true, ⟨([] : List UInt8).toArray⟩⟩], q6, by omega, ?_, by rw [List.length_append, HL2.out]; rfl, HD6.out, ?_, ?_, hv2, ?_⟩
              · rw [show ((m - (k + 1) : Nat) : Int) = ((m - k : Nat) : Int) - 1 by omega]
              · exact HR3.out.chg hup (fun h => by have := hvb _ h; omega) (fun h => by have := hvb _ h; omega)
              · unfold OwnR
                rw [List.length_append, List.flatMap_append]
                simpa using hown2
              · exact (hch.trans hc3 (fun i hi => .inl hi)).trans hup (fun i hi => .inr (hvb _ hi))
            case measure => simp [intOf]; omega
        · go_wp2_with fail
          refine (ttext_st 60 g b q3 w2 HR2.out).mono ?_
          rintro e wa3 ⟨rfl, hca3, hra3⟩
          have hba3 := hb2.chg hca3 hpg
          have hcc3 := hc2.trans hca3 (fun i hi => .inl hi)
          have HRA3 := Lib.hid hra3
          clear hra3 HR2 hb2 hc2
          clear k2
          have HS1 : Hid (recF3 tkText 0 tm true q3 = recF4 tkText 0 tm true (tkText 60 q3).1 (tkText 60 q3).2) := rfl
          rw [HS1.out] at HS0
          clear HS1
          generalize (tkText 60 q3).1 = key at *
          generalize (tkText 60 q3).2 = q4 at *
          have cq := hba3.cell (j := 3) rfl
          have fq := hba3.free 3
          go_upto_region 12 with fail
          have hb3 := hba3.set 3 (.string ⟨key.toArray⟩)
          have hc3 := hcc3.setCell (p := ⟨p, 3, none⟩) (.inr hp) (.string ⟨key.toArray⟩)
          have hr3 := HRA3.out.chg ((Chg.refl (fun k => k = p) wa3).setCell (p := ⟨p, 3, none⟩) (.inl rfl) (.string ⟨key.toArray⟩)) hgp hbp
          have HR3 := Lib.hid hr3
          clear hba3 hcc3 hr3 HRA3 cq fq
          generalize wa3.setCell ⟨p, 3, none⟩ (.string ⟨key.toArray⟩) = w3 at *
          go_wp2_with fail
          refine (ttruth_st g b q4 w3 HR3.out).mono ?_
          rintro e wa4 ⟨rfl, hca4, hra4⟩
          have hba4 := hb3.chg hca4 hpg
          have hcc4 := hc3.trans hca4 (fun i hi => .inl hi)
          have HRA4 := Lib.hid hra4
          clear hra4 HR3 hb3 hc3
          have HS1 : Hid (recF4 tkText 0 tm true key q4 = recF5 tkText 0 tm true key (truthS q4).1 (truthS q4).2) := rfl
          rw [HS1.out] at HS0
          clear HS1
          generalize (truthS q4).1 = gn at *
          generalize (truthS q4).2 = q5 at *
          have cq := hba4.cell (j := 4) rfl
          have fq := hba4.free 4
          go_upto_region 13 with fail
          have hb4 := hba4.set 4 (.bool gn)
          have hc4 := hcc4.setCell (p := ⟨p, 4, none⟩) (.inr hp) (.bool gn)
          have hr4 := HRA4.out.chg ((Chg.refl (fun k => k = p) wa4).setCell (p := ⟨p, 4, none⟩) (.inl rfl) (.bool gn)) hgp hbp
          have HR4 := Lib.hid hr4
          clear hba4 hcc4 hr4 HRA4 cq fq
          generalize wa4.setCell ⟨p, 4, none⟩ (.bool gn) = w4 at *
          have k4 := hb4.cell (j := 4) rfl
          cases gn
          · go_wp2_with fail
            refine (ttext_st 500 g b q5 w4 HR4.out).mono ?_
            rintro e wa5 ⟨rfl, hca5, hra5⟩
            have hba5 := hb4.chg hca5 hpg
            have hcc5 := hc4.trans hca5 (fun i hi => .inl hi)
            have HRA5 := Lib.hid hra5
            clear hra5 HR4 hb4 hc4
            clear k4
            have HS1 : Hid (recF5 tkText 0 tm true key false q5 = recF6 0 tm true key false (tkText 500 q5).1 (tkText 500 q5).2) := rfl
            rw [HS1.out] at HS0
            clear HS1
            generalize (tkText 500 q5).1 = vl at *
            generalize (tkText 500 q5).2 = q6 at *
            have cq := hba5.cell (j := 5) rfl
            have fq := hba5.free 5
            go_upto_region 15 with fail
            have hb5 := hba5.set 5 (.string ⟨vl.toArray⟩)
            have hc5 := hcc5.setCell (p := ⟨p, 5, none⟩) (.inr hp) (.string ⟨vl.toArray⟩)
            have hr5 := HRA5.out.chg ((Chg.refl (fun k => k = p) wa5).setCell (p := ⟨p, 5, none⟩) (.inl rfl) (.string ⟨vl.toArray⟩)) hgp hbp
            have HR5 := Lib.hid hr5
            clear hba5 hcc5 hr5 HRA5 cq fq
            generalize wa5.setCell ⟨p, 5, none⟩ (.string ⟨vl.toArray⟩) = w5 at *
            have HQ : Hid (recS tkText false s1 = (⟨0, tm, true, ⟨key.toArray⟩, false, ⟨vl.toArray⟩⟩, q6)) := HT0.out.symm.trans HS0.out
            have HD6 : Hid (recsL tkText false m s3 [] = recsL tkText false (m - (k + 1)) q6 (acc ++ [⟨0, tm, true, ⟨key.toArray⟩, false, ⟨vl.toArray⟩⟩])) := by
              unfold Hid
              rw [HDD.out, show m - k = m - (k + 1) + 1 by omega, recsL_on hbs, HQ.out]
            have g0 := hb5.cell (j := 0) rfl
            have g1 := hb5.cell (j := 1) rfl
            have g2 := hb5.cell (j := 2) rfl
            have g3 := hb5.cell (j := 3) rfl
            have g4 := hb5.cell (j := 4) rfl
            have g5 := hb5.cell (j := 5) rfl
            have hown := ownsRow_chg HOW.out hc5 (fun i hi e => by have := hvb i hi; omega)
            have h63 : acc.length + 1 ≤ maxLen := by unfold maxLen; omega
            have hby : (acc.length + 1) * 64 ≤ 140737488355328 := by omega
            have hb1 := Box.new w5 (Rec.cells ⟨0, tm, true, ⟨key.toArray⟩, false, ⟨vl.toArray⟩⟩) 99
            have HB1 := Lib.hid hb1
            have HH63 := Lib.hid h63
            have HBY := Lib.hid hby
            have HOW16 := Lib.hid hown
            have HL2 := Lib.hid hlen2
            clear hb1 h63 hby hown hlen2 HQ HS0 HT0
            go_wp2_with (at_builtin; go_must (refine wpList_append_grew rfl (.tmp 46) (.tmp 48) 22 22 rfl recsT _ Tryd.underlying22 (by intro _; simp) _ _ _ rfl (HOW16.out.alloc _) _ 1 (Rec.cells ⟨0, tm, true, ⟨key.toArray⟩, false, ⟨vl.toArray⟩⟩) rfl (Source.box HB1.out rfl (Rec.cells_one _)) HH63.out HBY.out ?_); intro v2 w2 hown2 hg2 _)
            go_wp2
            go_roundw
            case rel =>
              have hchA := (Chg.refl Nil w5).alloc (.cells (Rec.cells ⟨0, tm, true, ⟨key.toArray⟩, false, ⟨vl.toArray⟩⟩).toArray 99)
              have hv2 : ∀ i, v2.ownBlock = some i → w.heap.size ≤ i := by
                intro i hi
                rcases hg2.own i hi with h | h
                · exact hvb i h
                · have h1 := hc5.size
                  simp at h
                  omega
              have hup : Chg (Own u5) w5 w2 := (hchA.weak (fun _ h => h.elim)).trans hg2.chg (fun i hi => .inl hi)
              refine ⟨k + 1, acc ++ [⟨0, tm, true, ⟨key.toArray⟩, false, ⟨vl.toArray⟩⟩], q6, by omega, ?_, by rw [List.length_append, HL2.out]; rfl, HD6.out, ?_, ?_, hv2, ?_⟩
              · rw [show ((m - (k + 1) : Nat) : Int) = ((m - k : Nat) : Int) - 1 by omega]
              · exact HR5.out.chg hup (fun h => by have := hvb _ h; omega) (fun h => by have := hvb _ h; omega)
              · unfold OwnR
                rw [List.length_append, List.flatMap_append]
                simpa using hown2
              · exact (hch.trans hc5 (fun i hi => .inl hi)).trans hup (fun i hi => .inr (hvb _ hi))
            case measure => simp [intOf]; omega
          · clear k4
            have hq6 : ∃ q6, q6 = q5 := ⟨_, rfl⟩
            obtain ⟨q6, hq6⟩ := hq6
            have HS1 : Hid (recF5 tkText 0 tm true key true q5 = recF6 0 tm true key true [] q5) := rfl
            rw [HS1.out] at HS0
            rw [← hq6] at HR4 HS0
            clear hq6 HS1
            have k4 := hb4.cell (j := 4) rfl
            have HQ : Hid (recS tkText false s1 = (⟨0, tm, true, ⟨key.toArray⟩, true, ⟨([] : List UInt8).toArray⟩⟩, q6)) := HT0.out.symm.trans HS0.out
            have HD6 : Hid (recsL tkText false m s3 [] = recsL tkText false (m - (k + 1)) q6 (acc ++ [⟨0, tm, true, ⟨key.toArray⟩, true, ⟨([] : List UInt8).toArray⟩⟩])) := by
              unfold Hid
              rw [HDD.out, show m - k = m - (k + 1) + 1 by omega, recsL_on hbs, HQ.out]
            have g0 := hb4.cell (j := 0) rfl
            have g1 := hb4.cell (j := 1) rfl
            have g2 := hb4.cell (j := 2) rfl
            have g3 := hb4.cell (j := 3) rfl
            have g4 := hb4.cell (j := 4) rfl
            have g5 := hb4.cell (j := 5) rfl
            have hown := ownsRow_chg HOW.out hc4 (fun i hi e => by have := hvb i hi; omega)
            have h63 : acc.length + 1 ≤ maxLen := by unfold maxLen; omega
            have hby : (acc.length + 1) * 64 ≤ 140737488355328 := by omega
            have hb1 := Box.new w4 (Rec.cells ⟨0, tm, true, ⟨key.toArray⟩, true, ⟨([] : List UInt8).toArray⟩⟩) 99
            have HB1 := Lib.hid hb1
            have HH63 := Lib.hid h63
            have HBY := Lib.hid hby
            have HOW16 := Lib.hid hown
            have HL2 := Lib.hid hlen2
            clear hb1 h63 hby hown hlen2 HQ HS0 HT0 k4
            go_wp2_with (at_builtin; go_must (refine wpList_append_grew rfl (.tmp 46) (.tmp 48) 22 22 rfl recsT _ Tryd.underlying22 (by intro _; simp) _ _ _ rfl (HOW16.out.alloc _) _ 1 (Rec.cells ⟨0, tm, true, ⟨key.toArray⟩, true, ⟨([] : List UInt8).toArray⟩⟩) rfl (Source.box HB1.out rfl (Rec.cells_one _)) HH63.out HBY.out ?_); intro v2 w2 hown2 hg2 _)
            go_wp2
            go_roundw
            case rel =>
              have hchA := (Chg.refl Nil w4).alloc (.cells (Rec.cells ⟨0, tm, true, ⟨key.toArray⟩, true, ⟨([] : List UInt8).toArray⟩⟩).toArray 99)
              have hv2 : ∀ i, v2.ownBlock = some i → w.heap.size ≤ i := by
                intro i hi
                rcases hg2.own i hi with h | h
                · exact hvb i h
                · have h1 := hc4.size
                  simp at h
                  omega
              have hup : Chg (Own u5) w4 w2 := (hchA.weak (fun _ h => h.elim)).trans hg2.chg (fun i hi => .inl hi)
              refine ⟨k + 1, acc ++ [⟨0, tm, true, ⟨key.toArray⟩, true, ⟨([] : List UInt8).toArray⟩⟩], q6, by omega, ?_, by rw [List.length_append, HL2.out]; rfl, HD6.out, ?_, ?_, hv2, ?_⟩
              · rw [show ((m - (k + 1) : Nat) : Int) = ((m - k : Nat) : Int) - 1 by omega]
              · exact HR4.out.chg hup (fun h => by have := hvb _ h; omega) (fun h => by have := hvb _ h; omega)
              · unfold OwnR
                rw [List.length_append, List.flatMap_append]
                simpa using hown2
              · exact (hch.trans hc4 (fun i hi => .inl hi)).trans hup (fun i hi => .inr (hvb _ hi))
            case measure => simp [intOf]; omega
      · obtain ⟨T0, hT0⟩ : ∃ T0, T0 = recS tkText true s1 := ⟨_, rfl⟩
        have HT0 := Lib.hid hT0
        have HS0 := Lib.hid hT0
        clear hT0
        have hq0 : ∃ q0, q0 = s1 := ⟨_, rfl⟩
        obtain ⟨q0, hq0⟩ := hq0
        rw [← hq0] at HR0 HS0
        clear hq0
        go_wp2_with fail
        refine (tnum_st g b q0 w0 HR0.out).mono ?_
        rintro e wa1 ⟨rfl, hca1, hra1⟩
        have hba1 := hb0.chg hca1 hpg
        have hcc1 := hc0.trans hca1 (fun i hi => .inl hi)
        have HRA1 := Lib.hid hra1
        clear hra1 HR0 hb0 hc0
        have HS1 : Hid (recS tkText true q0 = recF1 tkText (numS q0).1 (numS q0).2) := rfl
        rw [HS1.out] at HS0
        clear HS1
        generalize (numS q0).1 = o at *
        generalize (numS q0).2 = q1 at *
        have cq := hba1.cell (j := 0) rfl
        have fq := hba1.free 0
        go_upto_region 8 with fail
        have hb1 := hba1.set 0 (.int .i64 (o : Nat))
        have hc1 := hcc1.setCell (p := ⟨p, 0, none⟩) (.inr hp) (.int .i64 (o : Nat))
        have hr1 := HRA1.out.chg ((Chg.refl (fun k => k = p) wa1).setCell (p := ⟨p, 0, none⟩) (.inl rfl) (.int .i64 (o : Nat))) hgp hbp
        have HR1 := Lib.hid hr1
        clear hba1 hcc1 hr1 HRA1 cq fq
        generalize wa1.setCell ⟨p, 0, none⟩ (.int .i64 (o : Nat)) = w1 at *
        go_wp2_with fail
        refine (tnum_st g b q1 w1 HR1.out).mono ?_
        rintro e wa2 ⟨rfl, hca2, hra2⟩
        have hba2 := hb1.chg hca2 hpg
        have hcc2 := hc1.trans hca2 (fun i hi => .inl hi)
        have HRA2 := Lib.hid hra2
        clear hra2 HR1 hb1 hc1
        have HS1 : Hid (recF1 tkText o q1 = recF2 tkText o (numS q1).1 (numS q1).2) := rfl
        rw [HS1.out] at HS0
        clear HS1
        generalize (numS q1).1 = tm at *
        generalize (numS q1).2 = q2 at *
        have cq := hba2.cell (j := 1) rfl
        have fq := hba2.free 1
        go_upto_region 9 with fail
        have hb2 := hba2.set 1 (.int .i64 (tm : Nat))
        have hc2 := hcc2.setCell (p := ⟨p, 1, none⟩) (.inr hp) (.int .i64 (tm : Nat))
        have hr2 := HRA2.out.chg ((Chg.refl (fun k => k = p) wa2).setCell (p := ⟨p, 1, none⟩) (.inl rfl) (.int .i64 (tm : Nat))) hgp hbp
        have HR2 := Lib.hid hr2
        clear hba2 hcc2 hr2 HRA2 cq fq
        generalize wa2.setCell ⟨p, 1, none⟩ (.int .i64 (tm : Nat)) = w2 at *
        go_wp2_with fail
        refine (ttruth_st g b q2 w2 HR2.out).mono ?_
        rintro e wa3 ⟨rfl, hca3, hra3⟩
        have hba3 := hb2.chg hca3 hpg
        have hcc3 := hc2.trans hca3 (fun i hi => .inl hi)
        have HRA3 := Lib.hid hra3
        clear hra3 HR2 hb2 hc2
        have HS1 : Hid (recF2 tkText o tm q2 = recF3 tkText o tm (truthS q2).1 (truthS q2).2) := rfl
        rw [HS1.out] at HS0
        clear HS1
        generalize (truthS q2).1 = kd at *
        generalize (truthS q2).2 = q3 at *
        have cq := hba3.cell (j := 2) rfl
        have fq := hba3.free 2
        go_upto_region 10 with fail
        have hb3 := hba3.set 2 (.bool kd)
        have hc3 := hcc3.setCell (p := ⟨p, 2, none⟩) (.inr hp) (.bool kd)
        have hr3 := HRA3.out.chg ((Chg.refl (fun k => k = p) wa3).setCell (p := ⟨p, 2, none⟩) (.inl rfl) (.bool kd)) hgp hbp
        have HR3 := Lib.hid hr3
        clear hba3 hcc3 hr3 HRA3 cq fq
        generalize wa3.setCell ⟨p, 2, none⟩ (.bool kd) = w3 at *
        have k2 := hb3.cell (j := 2) rfl
        cases kd
        · have hq4 : ∃ q4, q4 = q3 := ⟨_, rfl⟩
          obtain ⟨q4, hq4⟩ := hq4
          have HS1 : Hid (recF3 tkText o tm false q3 = recF4 tkText o tm false [] q3) := rfl
          rw [HS1.out] at HS0
          rw [← hq4] at HR3 HS0
          clear hq4 HS1
          go_wp2_with fail
          refine (ttruth_st g b q4 w3 HR3.out).mono ?_
          rintro e wa4 ⟨rfl, hca4, hra4⟩
          have hba4 := hb3.chg hca4 hpg
          have hcc4 := hc3.trans hca4 (fun i hi => .inl hi)
          have HRA4 := Lib.hid hra4
          clear hra4 HR3 hb3 hc3
          clear k2
          have HS1 : Hid (recF4 tkText o tm false [] q4 = recF5 tkText o tm false [] (truthS q4).1 (truthS q4).2) := rfl
          rw [HS1.out] at HS0
          clear HS1
          generalize (truthS q4).1 = gn at *
          generalize (truthS q4).2 = q5 at *
          have cq := hba4.cell (j := 4) rfl
          have fq := hba4.free 4
          go_upto_region 13 with fail
          have hb4 := hba4.set 4 (.bool gn)
          have hc4 := hcc4.setCell (p := ⟨p, 4, none⟩) (.inr hp) (.bool gn)
          have hr4 := HRA4.out.chg ((Chg.refl (fun k => k = p) wa4).setCell (p := ⟨p, 4, none⟩) (.inl rfl) (.bool gn)) hgp hbp
          have HR4 := Lib.hid hr4
          clear hba4 hcc4 hr4 HRA4 cq fq
          generalize wa4.setCell ⟨p, 4, none⟩ (.bool gn) = w4 at *
          have k4 := hb4.cell (j := 4) rfl
          cases gn
          · go_wp2_with fail
            refine (ttext_st 500 g b q5 w4 HR4.out).mono ?_
            rintro e wa5 ⟨rfl, hca5, hra5⟩
            have hba5 := hb4.chg hca5 hpg
            have hcc5 := hc4.trans hca5 (fun i hi => .inl hi)
            have HRA5 := Lib.hid hra5
            clear hra5 HR4 hb4 hc4
            clear k4
            have HS1 : Hid (recF5 tkText o tm false [] false q5 = recF6 o tm false [] false (tkText 500 q5).1 (tkText 500 q5).2) := rfl
            rw [HS1.out] at HS0
            clear HS1
            generalize (tkText 500 q5).1 = vl at *
            generalize (tkText 500 q5).2 = q6 at *
            have cq := hba5.cell (j := 5) rfl
            have fq := hba5.free 5
            go_upto_region 15 with fail
            have hb5 := hba5.set 5 (.string ⟨vl.toArray⟩)
            have hc5 := hcc5.setCell (p := ⟨p, 5, none⟩) (.inr hp) (.string ⟨vl.toArray⟩)
            have hr5 := HRA5.out.chg ((Chg.refl (fun k => k = p) wa5).setCell (p := ⟨p, 5, none⟩) (.inl rfl) (.string ⟨vl.toArray⟩)) hgp hbp
            have HR5 := Lib.hid hr5
            clear hba5 hcc5 hr5 HRA5 cq fq
            generalize wa5.setCell ⟨p, 5, none⟩ (.string ⟨vl.toArray⟩) = w5 at *
            have HQ : Hid (recS tkText true s1 = (⟨o, tm, false, ⟨([] : List UInt8).toArray⟩, false, ⟨vl.toArray⟩⟩, q6)) := HT0.out.symm.trans HS0.out
            have HD6 : Hid (recsL tkText true m s3 [] = recsL tkText true (m - (k + 1)) q6 (acc ++ [⟨o, tm, false, ⟨([] : List UInt8).toArray⟩, false, ⟨vl.toArray⟩⟩])) := by
              unfold Hid
              rw [HDD.out, show m - k = m - (k + 1) + 1 by omega, recsL_on hbs, HQ.out]
            have g0 := hb5.cell (j := 0) rfl
            have g1 := hb5.cell (j := 1) rfl
            have g2 := hb5.cell (j := 2) rfl
            have g3 := hb5.cell (j := 3) rfl
            have g4 := hb5.cell (j := 4) rfl
            have g5 := hb5.cell (j := 5) rfl
            have hown := ownsRow_chg HOW.out hc5 (fun i hi e => by have := hvb i hi; omega)
            have h63 : acc.length + 1 ≤ maxLen := by unfold maxLen; omega
            have hby : (acc.length + 1) * 64 ≤ 140737488355328 := by omega
            have hb1 := Box.new w5 (Rec.cells ⟨o, tm, false, ⟨([] : List UInt8).toArray⟩, false, ⟨vl.toArray⟩⟩) 99
            have HB1 := Lib.hid hb1
            have HH63 := Lib.hid h63
            have HBY := Lib.hid hby
            have HOW16 := Lib.hid hown
            have HL2 := Lib.hid hlen2
            clear hb1 h63 hby hown hlen2 HQ HS0 HT0
            go_wp2_with (at_builtin; go_must (refine wpList_append_grew rfl (.tmp 46) (.tmp 48) 22 22 rfl recsT _ Tryd.underlying22 (by intro _; simp) _ _ _ rfl (HOW16.out.alloc _) _ 1 (Rec.cells ⟨o, tm, false, ⟨([] : List UInt8).toArray⟩, false, ⟨vl.toArray⟩⟩) rfl (Source.box HB1.out rfl (Rec.cells_one _)) HH63.out HBY.out ?_); intro v2 w2 hown2 hg2 _)
            go_wp2
            go_roundw
            case rel =>
              have hchA := (Chg.refl Nil w5).alloc (.cells (Rec.cells ⟨o, tm, false, ⟨([] : List UInt8).toArray⟩, false, ⟨vl.toArray⟩⟩).toArray 99)
              have hv2 : ∀ i, v2.ownBlock = some i → w.heap.size ≤ i := by
                intro i hi
                rcases hg2.own i hi with h | h
                · exact hvb i h
                · have h1 := hc5.size
                  simp at h
                  omega
              have hup : Chg (Own u5) w5 w2 := (hchA.weak (fun _ h => h.elim)).trans hg2.chg (fun i hi => .inl hi)
              refine ⟨k + 1, acc ++ [⟨o, tm, false, ⟨([] : List UInt8).toArray⟩, false, ⟨vl.toArray⟩⟩], q6, by omega, ?_, by rw [List.length_append, HL2.out]; rfl, HD6.out, ?_, ?_, hv2, ?_⟩
              · rw [show ((m - (k + 1) : Nat) : Int) = ((m - k : Nat) : Int) - 1 by omega]
              · exact HR5.out.chg hup (fun h => by have := hvb _ h; omega) (fun h => by have := hvb _ h; omega)
              · unfold OwnR
                rw [List.length_append, List.flatMap_append]
                simpa using hown2
              · exact (hch.trans hc5 (fun i hi => .inl hi)).trans hup (fun i hi => .inr (hvb _ hi))
            case measure => simp [intOf]; omega
          · clear k4
            have hq6 : ∃ q6, q6 = q5 := ⟨_, rfl⟩
            obtain ⟨q6, hq6⟩ := hq6
            have HS1 : Hid (recF5 tkText o tm false [] true q5 = recF6 o tm false [] true [] q5) := rfl
            rw [HS1.out] at HS0
            rw [← hq6] at HR4 HS0
            clear hq6 HS1
            have k4 := hb4.cell (j := 4) rfl
            have HQ : Hid (recS tkText true s1 = (⟨o, tm, false, ⟨([] : List UInt8).toArray⟩, true, ⟨([] : List UInt8).toArray⟩⟩, q6)) := HT0.out.symm.trans HS0.out
            have HD6 : Hid (recsL tkText true m s3 [] = recsL tkText true (m - (k + 1)) q6 (acc ++ [⟨o, tm, false, ⟨([] : List UInt8).toArray⟩, true, ⟨([] : List UInt8).toArray⟩⟩])) := by
              unfold Hid
              rw [HDD.out, show m - k = m - (k + 1) + 1 by omega, recsL_on hbs, HQ.out]
            have g0 := hb4.cell (j := 0) rfl
            have g1 := hb4.cell (j := 1) rfl
            have g2 := hb4.cell (j := 2) rfl
            have g3 := hb4.cell (j := 3) rfl
            have g4 := hb4.cell (j := 4) rfl
            have g5 := hb4.cell (j := 5) rfl
            have hown := ownsRow_chg HOW.out hc4 (fun i hi e => by have := hvb i hi; omega)
            have h63 : acc.length + 1 ≤ maxLen := by unfold maxLen; omega
            have hby : (acc.length + 1) * 64 ≤ 140737488355328 := by omega
            have hb1 := Box.new w4 (Rec.cells ⟨o, tm, false, ⟨([] : List UInt8).toArray⟩, true, ⟨([] : List UInt8).toArray⟩⟩) 99
            have HB1 := Lib.hid hb1
            have HH63 := Lib.hid h63
            have HBY := Lib.hid hby
            have HOW16 := Lib.hid hown
            have HL2 := Lib.hid hlen2
            clear hb1 h63 hby hown hlen2 HQ HS0 HT0 k4
            go_wp2_with (at_builtin; go_must (refine wpList_append_grew rfl (.tmp 46) (.tmp 48) 22 22 rfl recsT _ Tryd.underlying22 (by intro _; simp) _ _ _ rfl (HOW16.out.alloc _) _ 1 (Rec.cells ⟨o, tm, false, ⟨([] : List UInt8).toArray⟩, true, ⟨([] : List UInt8).toArray⟩⟩) rfl (Source.box HB1.out rfl (Rec.cells_one _)) HH63.out HBY.out ?_); intro v2 w2 hown2 hg2 _)
            go_wp2
            go_roundw
            case rel =>
              have hchA := (Chg.refl Nil w4).alloc (.cells (Rec.cells ⟨o, tm, false, ⟨([] : List UInt8).toArray⟩, true, ⟨([] : List UInt8).toArray⟩⟩).toArray 99)
              have hv2 : ∀ i, v2.ownBlock = some i → w.heap.size ≤ i := by
                intro i hi
                rcases hg2.own i hi with h | h
                · exact hvb i h
                · have h1 := hc4.size
                  simp at h
                  omega
              have hup : Chg (Own u5) w4 w2 := (hchA.weak (fun _ h => h.elim)).trans hg2.chg (fun i hi => .inl hi)
              refine ⟨k + 1, acc ++ [⟨o, tm, false, ⟨([] : List UInt8).toArray⟩, true, ⟨([] : List UInt8).toArray⟩⟩], q6, by omega, ?_, by rw [List.length_append, HL2.out]; rfl, HD6.out, ?_, ?_, hv2, ?_⟩
              · rw [show ((m - (k + 1) : Nat) : Int) = ((m - k : Nat) : Int) - 1 by omega]
              · exact HR4.out.chg hup (fun h => by have := hvb _ h; omega) (fun h => by have := hvb _ h; omega)
              · unfold OwnR
                rw [List.length_append, List.flatMap_append]
                simpa using hown2
              · exact (hch.trans hc4 (fun i hi => .inl hi)).trans hup (fun i hi => .inr (hvb _ hi))
            case measure => simp [intOf]; omega
        · go_wp2_with fail
          refine (ttext_st 60 g b q3 w3 HR3.out).mono ?_
          rintro e wa4 ⟨rfl, hca4, hra4⟩
          have hba4 := hb3.chg hca4 hpg
          have hcc4 := hc3.trans hca4 (fun i hi => .inl hi)
          have HRA4 := Lib.hid hra4
          clear hra4 HR3 hb3 hc3
          clear k2
          have HS1 : Hid (recF3 tkText o tm true q3 = recF4 tkText o tm true (tkText 60 q3).1 (tkText 60 q3).2) := rfl
          rw [HS1.out] at HS0
          clear HS1
          generalize (tkText 60 q3).1 = key at *
          generalize (tkText 60 q3).2 = q4 at *
          have cq := hba4.cell (j := 3) rfl
          have fq := hba4.free 3
          go_upto_region 12 with fail
          have hb4 := hba4.set 3 (.string ⟨key.toArray⟩)
          have hc4 := hcc4.setCell (p := ⟨p, 3, none⟩) (.inr hp) (.string ⟨key.toArray⟩)
          have hr4 := HRA4.out.chg ((Chg.refl (fun k => k = p) wa4).setCell (p := ⟨p, 3, none⟩) (.inl rfl) (.string ⟨key.toArray⟩)) hgp hbp
          have HR4 := Lib.hid hr4
          clear hba4 hcc4 hr4 HRA4 cq fq
          generalize wa4.setCell ⟨p, 3, none⟩ (.string ⟨key.toArray⟩) = w4 at *
          go_wp2_with fail
          refine (ttruth_st g b q4 w4 HR4.out).mono ?_
          rintro e wa5 ⟨rfl, hca5, hra5⟩
          have hba5 := hb4.chg hca5 hpg
          have hcc5 := hc4.trans hca5 (fun i hi => .inl hi)
          have HRA5 := Lib.hid hra5
          clear hra5 HR4 hb4 hc4
          have HS1 : Hid (recF4 tkText o tm true key q4 = recF5 tkText o tm true key (truthS q4).1 (truthS q4).2) := rfl
          rw [HS1.out] at HS0
          clear HS1
          generalize (truthS q4).1 = gn at *
          generalize (truthS q4).2 = q5 at *
          have cq := hba5.cell (j := 4) rfl
          have fq := hba5.free 4
          go_upto_region 13 with fail
          have hb5 := hba5.set 4 (.bool gn)
          have hc5 := hcc5.setCell (p := ⟨p, 4, none⟩) (.inr hp) (.bool gn)
          have hr5 := HRA5.out.chg ((Chg.refl (fun k => k = p) wa5).setCell (p := ⟨p, 4, none⟩) (.inl rfl) (.bool gn)) hgp hbp
          have HR5 := Lib.hid hr5
          clear hba5 hcc5 hr5 HRA5 cq fq
          generalize wa5.setCell ⟨p, 4, none⟩ (.bool gn) = w5 at *
          have k4 := hb5.cell (j := 4) rfl
          cases gn
          · go_wp2_with fail
            refine (ttext_st 500 g b q5 w5 HR5.out).mono ?_
            rintro e wa6 ⟨rfl, hca6, hra6⟩
            have hba6 := hb5.chg hca6 hpg
            have hcc6 := hc5.trans hca6 (fun i hi => .inl hi)
            have HRA6 := Lib.hid hra6
            clear hra6 HR5 hb5 hc5
            clear k4
            have HS1 : Hid (recF5 tkText o tm true key false q5 = recF6 o tm true key false (tkText 500 q5).1 (tkText 500 q5).2) := rfl
            rw [HS1.out] at HS0
            clear HS1
            generalize (tkText 500 q5).1 = vl at *
            generalize (tkText 500 q5).2 = q6 at *
            have cq := hba6.cell (j := 5) rfl
            have fq := hba6.free 5
            go_upto_region 15 with fail
            have hb6 := hba6.set 5 (.string ⟨vl.toArray⟩)
            have hc6 := hcc6.setCell (p := ⟨p, 5, none⟩) (.inr hp) (.string ⟨vl.toArray⟩)
            have hr6 := HRA6.out.chg ((Chg.refl (fun k => k = p) wa6).setCell (p := ⟨p, 5, none⟩) (.inl rfl) (.string ⟨vl.toArray⟩)) hgp hbp
            have HR6 := Lib.hid hr6
            clear hba6 hcc6 hr6 HRA6 cq fq
            generalize wa6.setCell ⟨p, 5, none⟩ (.string ⟨vl.toArray⟩) = w6 at *
            have HQ : Hid (recS tkText true s1 = (⟨o, tm, true, ⟨key.toArray⟩, false, ⟨vl.toArray⟩⟩, q6)) := HT0.out.symm.trans HS0.out
            have HD6 : Hid (recsL tkText true m s3 [] = recsL tkText true (m - (k + 1)) q6 (acc ++ [⟨o, tm, true, ⟨key.toArray⟩, false, ⟨vl.toArray⟩⟩])) := by
              unfold Hid
              rw [HDD.out, show m - k = m - (k + 1) + 1 by omega, recsL_on hbs, HQ.out]
            have g0 := hb6.cell (j := 0) rfl
            have g1 := hb6.cell (j := 1) rfl
            have g2 := hb6.cell (j := 2) rfl
            have g3 := hb6.cell (j := 3) rfl
            have g4 := hb6.cell (j := 4) rfl
            have g5 := hb6.cell (j := 5) rfl
            have hown := ownsRow_chg HOW.out hc6 (fun i hi e => by have := hvb i hi; omega)
            have h63 : acc.length + 1 ≤ maxLen := by unfold maxLen; omega
            have hby : (acc.length + 1) * 64 ≤ 140737488355328 := by omega
            have hb1 := Box.new w6 (Rec.cells ⟨o, tm, true, ⟨key.toArray⟩, false, ⟨vl.toArray⟩⟩) 99
            have HB1 := Lib.hid hb1
            have HH63 := Lib.hid h63
            have HBY := Lib.hid hby
            have HOW16 := Lib.hid hown
            have HL2 := Lib.hid hlen2
            clear hb1 h63 hby hown hlen2 HQ HS0 HT0
            go_wp2_with (at_builtin; go_must (refine wpList_append_grew rfl (.tmp 46) (.tmp 48) 22 22 rfl recsT _ Tryd.underlying22 (by intro _; simp) _ _ _ rfl (HOW16.out.alloc _) _ 1 (Rec.cells ⟨o, tm, true, ⟨key.toArray⟩, false, ⟨vl.toArray⟩⟩) rfl (Source.box HB1.out rfl (Rec.cells_one _)) HH63.out HBY.out ?_); intro v2 w2 hown2 hg2 _)
            go_wp2
            go_roundw
            case rel =>
              have hchA := (Chg.refl Nil w6).alloc (.cells (Rec.cells ⟨o, tm, true, ⟨key.toArray⟩, false, ⟨vl.toArray⟩⟩).toArray 99)
              have hv2 : ∀ i, v2.ownBlock = some i → w.heap.size ≤ i := by
                intro i hi
                rcases hg2.own i hi with h | h
                · exact hvb i h
                · have h1 := hc6.size
                  simp at h
                  omega
              have hup : Chg (Own u5) w6 w2 := (hchA.weak (fun _ h => h.elim)).trans hg2.chg (fun i hi => .inl hi)
              refine ⟨k + 1, acc ++ [⟨o, tm, true, ⟨key.toArray⟩, false, ⟨vl.toArray⟩⟩], q6, by omega, ?_, by rw [List.length_append, HL2.out]; rfl, HD6.out, ?_, ?_, hv2, ?_⟩
              · rw [show ((m - (k + 1) : Nat) : Int) = ((m - k : Nat) : Int) - 1 by omega]
              · exact HR6.out.chg hup (fun h => by have := hvb _ h; omega) (fun h => by have := hvb _ h; omega)
              · unfold OwnR
                rw [List.length_append, List.flatMap_append]
                simpa using hown2
              · exact (hch.trans hc6 (fun i hi => .inl hi)).trans hup (fun i hi => .inr (hvb _ hi))
            case measure => simp [intOf]; omega
          · clear k4
            have hq6 : ∃ q6, q6 = q5 := ⟨_, rfl⟩
            obtain ⟨q6, hq6⟩ := hq6
            have HS1 : Hid (recF5 tkText o tm true key true q5 = recF6 o tm true key true [] q5) := rfl
            rw [HS1.out] at HS0
            rw [← hq6] at HR5 HS0
            clear hq6 HS1
            have k4 := hb5.cell (j := 4) rfl
            have HQ : Hid (recS tkText true s1 = (⟨o, tm, true, ⟨key.toArray⟩, true, ⟨([] : List UInt8).toArray⟩⟩, q6)) := HT0.out.symm.trans HS0.out
            have HD6 : Hid (recsL tkText true m s3 [] = recsL tkText true (m - (k + 1)) q6 (acc ++ [⟨o, tm, true, ⟨key.toArray⟩, true, ⟨([] : List UInt8).toArray⟩⟩])) := by
              unfold Hid
              rw [HDD.out, show m - k = m - (k + 1) + 1 by omega, recsL_on hbs, HQ.out]
            have g0 := hb5.cell (j := 0) rfl
            have g1 := hb5.cell (j := 1) rfl
            have g2 := hb5.cell (j := 2) rfl
            have g3 := hb5.cell (j := 3) rfl
            have g4 := hb5.cell (j := 4) rfl
            have g5 := hb5.cell (j := 5) rfl
            have hown := ownsRow_chg HOW.out hc5 (fun i hi e => by have := hvb i hi; omega)
            have h63 : acc.length + 1 ≤ maxLen := by unfold maxLen; omega
            have hby : (acc.length + 1) * 64 ≤ 140737488355328 := by omega
            have hb1 := Box.new w5 (Rec.cells ⟨o, tm, true, ⟨key.toArray⟩, true, ⟨([] : List UInt8).toArray⟩⟩) 99
            have HB1 := Lib.hid hb1
            have HH63 := Lib.hid h63
            have HBY := Lib.hid hby
            have HOW16 := Lib.hid hown
            have HL2 := Lib.hid hlen2
            clear hb1 h63 hby hown hlen2 HQ HS0 HT0 k4
            go_wp2_with (at_builtin; go_must (refine wpList_append_grew rfl (.tmp 46) (.tmp 48) 22 22 rfl recsT _ Tryd.underlying22 (by intro _; simp) _ _ _ rfl (HOW16.out.alloc _) _ 1 (Rec.cells ⟨o, tm, true, ⟨key.toArray⟩, true, ⟨([] : List UInt8).toArray⟩⟩) rfl (Source.box HB1.out rfl (Rec.cells_one _)) HH63.out HBY.out ?_); intro v2 w2 hown2 hg2 _)
            go_wp2
            go_roundw
            case rel =>
              have hchA := (Chg.refl Nil w5).alloc (.cells (Rec.cells ⟨o, tm, true, ⟨key.toArray⟩, true, ⟨([] : List UInt8).toArray⟩⟩).toArray 99)
              have hv2 : ∀ i, v2.ownBlock = some i → w.heap.size ≤ i := by
                intro i hi
                rcases hg2.own i hi with h | h
                · exact hvb i h
                · have h1 := hc5.size
                  simp at h
                  omega
              have hup : Chg (Own u5) w5 w2 := (hchA.weak (fun _ h => h.elim)).trans hg2.chg (fun i hi => .inl hi)
              refine ⟨k + 1, acc ++ [⟨o, tm, true, ⟨key.toArray⟩, true, ⟨([] : List UInt8).toArray⟩⟩], q6, by omega, ?_, by rw [List.length_append, HL2.out]; rfl, HD6.out, ?_, ?_, hv2, ?_⟩
              · rw [show ((m - (k + 1) : Nat) : Int) = ((m - k : Nat) : Int) - 1 by omega]
              · exact HR5.out.chg hup (fun h => by have := hvb _ h; omega) (fun h => by have := hvb _ h; omega)
              · unfold OwnR
                rw [List.length_append, List.flatMap_append]
                simpa using hown2
              · exact (hch.trans hc5 (fun i hi => .inl hi)).trans hup (fun i hi => .inr (hvb _ hi))
            case measure => simp [intOf]; omega
    · have hfin : recsL tkText wi m s3 [] = (acc, s1) := by
        rw [HD]
        by_cases hb : s1.2 = true
        · exact recsL_bad hb
        · have : m - k = 0 := by
            by_cases hk2 : k < m
            · exact absurd ⟨hk2, by simpa using hb⟩ hgo
            · omega
          rw [this]; rfl
      have HFI : Hid (recsS tkText wi s = (acc, s1)) := by unfold Hid; rw [HF.out, hfin]
      have c1 := hr.choose_spec.choose_spec.c1
      have HR := Lib.hid hr
      have HOW := Lib.hid hown
      have HGO : Hid (¬ (k < m ∧ s1.2 = false)) := hgo
      clear hfin HD hmk hr hown hgo
      have hend : Chg (fun k => k = g) w wr ∧ RdS wr g b (recsS tkText wi s).2 ∧ OwnR 99 wr u5 (recsS tkText wi s).1 ∧ ∀ k, u5.ownBlock = some k → w.heap.size ≤ k := by
        rw [HFI.out]; exact ⟨hch, HR.out, HOW.out, hvb⟩
      have HEND := Lib.hid hend
      clear hend
      by_cases hkm : k < m
      · have hbad : s1.2 = true := by cases h : s1.2 with | true => rfl | false => exact absurd ⟨hkm, h⟩ HGO.out
        rw [hbad] at c1
        have hpos : (0 : Int) < ((m - k : Nat) : Int) := by omega
        clear hbad
        go_wp2_with fail
        go_ret
        exact ⟨u5, rfl, HEND.out⟩
      · have hpos : ¬ (0 : Int) < ((m - k : Nat) : Int) := by omega
        go_wp2_with fail
        go_ret
        exact ⟨u5, rfl, HEND.out⟩
end Go.Proofs.YtmklicodfiggnaaDoor
