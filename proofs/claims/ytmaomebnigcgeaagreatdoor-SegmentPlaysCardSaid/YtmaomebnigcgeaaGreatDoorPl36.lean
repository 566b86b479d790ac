/-
  The law's reads: what is read of a segment is the document's. (Of the segments' seat.)
-/
import Derived.Test.YtmaomebnigcgeaaGreatDoorPl35
import Derived.Test.YtmaomebnigcgeaaGreatDoorPl24
set_option linter.unusedSimpArgs false
set_option linter.unusedVariables false
namespace Go.Proofs.YtmaomebnigcgeaaGreatDoor
open Go.RowKit Go.Maps

theorem map_get {l m : List Bm} (h : l.map Bm.b = m.map Bm.b) {i : Nat} (hl : i < l.length) (hm : i < m.length) : l[i].b = m[i].b := by
  have h1 : (l.map Bm.b)[i]? = (m.map Bm.b)[i]? := by rw [h]
  rw [List.getElem?_map, List.getElem?_map, List.getElem?_eq_getElem hl, List.getElem?_eq_getElem hm] at h1
  exact Option.some.inj h1

set_option maxHeartbeats 0 in
set_option maxRecDepth 20000 in
theorem reads_any {B : Nat → Prop} {w : World} {p s q : Nat} {S : Nat → Prop} {v vq : Value} {d : Dk} {g : Sg} {base : Int} {ms : List Bm} (h : SgS B w p s S v d g) (hg : g.name.length ≤ 1000) (hof : SgOf g (ms.map Bm.b)) (sf : Nat) (hf : d.find g.name = some ⟨batBs (ms.map Bm.b), sf⟩)
    (hq : Sq w q vq base ms) (hml : ms.length ≤ 99999) (frm most : Int) :
    Calls Tryz.prog 13 #[.pointer (some ⟨s, 0, none⟩), .pointer (some ⟨q, 0, none⟩), .int .i64 frm, .int .i64 most] w fun e w' => e = .returned (.bool true) ∧ Chg Nil w w' := by
  have HRE := Lib.hid (sread_any h hg _ hof sf hf frm most)
  have HML := Lib.hid hml
  have HNUM := Lib.hid (fun m (hm : m ∈ ms) => (hof.ok m.b (List.mem_map.2 ⟨m, hm, rfl⟩)).nums)
  obtain ⟨qa, qc, hvq, _, hqc⟩ := hq.o.val
  have q1 := hq.c.cell (j := 1) rfl
  have HQC := Lib.hid hqc
  have HQR := Lib.hid hq.r
  subst hvq
  clear h hg hof hf hq hqc
  go_enter Tryz.func13, Tryz.ntmps13
  go_wp2_with fail
  refine HRE.out.mono ?_
  rintro e w1 ⟨u, rfl, ⟨rm, hrm, hrb, hra, hrn⟩, hc1⟩
  obtain ⟨ua, uc, hu, hule, hucell⟩ := hrm.val
  subst hu
  have HUC := Lib.hid hucell
  have HRB := Lib.hid hrb
  have HRA := Lib.hid hra
  have HC1 := Lib.hid hc1
  have HRL : Hid (rm.length ≤ 99999) := by
    have h1 := congrArg List.length hrb
    rw [List.length_map] at h1
    have h2 := readGo_len true most ((ms.map Bm.b).dropWhile fun b => decide (b.en ≤ frm))
    have h3 := (List.dropWhile_sublist (p := fun b : Bt => decide (b.en ≤ frm)) (l := ms.map Bm.b)).length_le
    rw [List.length_map] at h3
    have h4 := HML.out
    unfold readL at h1
    unfold Hid
    omega
  have q1 := hc1.cell q1 (fun h => h)
  clear hrm hrb hra hrn hucell hc1 HRE
  go_upto_block 0 with fail
  go_cut [12, 3, 11] (fun iv mv wv wy => ∃ (acc : List Bm), OwnQ wy wv acc ∧ acc.map Bm.b = readL (ms.map Bm.b) frm most ∧ (∀ m ∈ acc, m ∈ ms) ∧ acc.length ≤ 99999 ∧ Chg Nil w1 wy)
  case first =>
    go_wp2_with fail
    go_loopw [3, 11, 12] (fun mv wv iv wr => ∃ (wq : World) (i : Nat) (mo : Int) (acc : List Bm), wq = wr ∧ i ≤ ms.length ∧ iv = .int .i64 i ∧ mv = .int .i64 mo ∧ OwnQ wr wv acc ∧ Hid (lawGo frm mo (acc.map Bm.b) ((ms.drop i).map Bm.b) = readL (ms.map Bm.b) frm most ∧ (∀ m ∈ acc, m ∈ ms) ∧ acc.length ≤ i ∧ ∀ k, wv.ownBlock = some k → w1.heap.size ≤ k) ∧ Chg Nil w1 wr) (fun _ _ iv _ => ms.length - (RowKit.intOf iv).toNat)
    case atStart => exact ⟨_, 0, most, [], rfl, by omega, rfl, rfl, OwnQ.nil _, ⟨lawGo_all frm most _, fun m hm => (by cases hm), by simp, fun k hk => (by simp [Value.ownBlock] at hk)⟩, Chg.refl _ _⟩
    case round =>
      obtain ⟨wr, i, mo, acc, rfl, hi, rfl, rfl, hown, hst, hc⟩ := hrel
      have HC := Lib.hid hc
      have HT : Hid _ := hst
      have hov := hown.form
      generalize vA _ = oa at hov
      generalize vC _ = oc at hov
      subst hov
      have HOW := Lib.hid hown
      have q1 := hc.cell q1 (fun h => h)
      clear hc hst hown
      by_cases hil : i < ms.length
      · have hii : (i : Int) < (ms.length : Int) := by omega
        obtain ⟨qb, rfl, hz⟩ := HQC.out i hil
        obtain ⟨m, hm⟩ : ∃ m, ms[i] = m := ⟨_, rfl⟩
        have hmem : m ∈ ms := by rw [← hm]; exact List.getElem_mem hil
        rw [hm] at hz
        have HMEM := Lib.hid hmem
        have HNM := Lib.hid (HNUM.out m hmem)
        have HDR : Hid ((ms.drop i).map Bm.b = m.b :: (ms.drop (i + 1)).map Bm.b) := by
          unfold Hid
          rw [List.drop_eq_getElem_cons hil, hm]
          rfl
        have HIL := Lib.hid hil
        clear hm hmem
        obtain ⟨⟨bb, be, brs⟩, ra, rc⟩ := m
        obtain ⟨bl, hbl⟩ : ∃ bl, (Bt.mk bb be brs).bytes.length = bl := ⟨_, rfl⟩
        have HBL := Lib.hid hbl
        have z0 := HC.out.cell (HC1.out.cell (hz 0 _ rfl) (fun h => h)) (fun h => h)
        have z1 := HC.out.cell (HC1.out.cell (hz 1 _ rfl) (fun h => h)) (fun h => h)
        have z2 := HC.out.cell (HC1.out.cell (hz 2 _ rfl) (fun h => h)) (fun h => h)
        have z3 := HC.out.cell (HC1.out.cell (hz 3 _ rfl) (fun h => h)) (fun h => h)
        rw [Nat.add_zero] at z0
        simp only at z3
        rw [hbl] at z3
        clear hz hbl hil
        have hbx := Box.new wr [.int .i64 bb, .int .i64 be, .slice ra brs.length rc, .int .i64 (bl : Nat)] 49
        have HAL := Lib.hid ((Chg.refl Nil wr).alloc (.cells #[.int .i64 bb, .int .i64 be, .slice ra brs.length rc, .int .i64 (bl : Nat)] 49))
        go_upto_region 7 with fail
        clear z0 z1 z2 z3 q1
        have hbx : Box (wr.alloc (.cells #[.int .i64 bb, .int .i64 be, .slice ra brs.length rc, .int .i64 (bl : Nat)] 49)) wr.heap.size [.int .i64 bb, .int .i64 be, .slice ra brs.length rc, .int .i64 (bl : Nat)] 49 := hbx
        generalize wr.alloc (.cells #[.int .i64 bb, .int .i64 be, .slice ra brs.length rc, .int .i64 (bl : Nat)] 49) = w2 at *
        generalize wr.heap.size = g2 at *
        have HBX := Lib.hid hbx
        have y1 := hbx.cell (j := 1) rfl
        have y3 := hbx.cell (j := 3) rfl
        clear hbx
        have HC2 := Lib.hid (HC.out.trans HAL.out (fun _ h => h.elim))
        have HOW2 : Hid (OwnQ w2 (.slice oa acc.length oc) acc) := ownsRow_chg HOW.out HAL.out (fun _ _ h => h)
        go_cut [47] (fun bv wy => bv = .bool (decide (be ≤ frm ∧ acc = [])) ∧ wy = w2)
        case first =>
          by_cases hbe : be ≤ frm
          · by_cases hac : acc = []
            · have hd : decide (be ≤ frm ∧ acc = []) = true := decide_eq_true ⟨hbe, hac⟩
              have HD := Lib.hid hd
              have h0 : ((acc.length : Int) == 0) = true := by rw [hac]; rfl
              clear hac hd
              go_wp2_with fail
              go_simp
              go_meet
              case rel => exact ⟨by rw [HD.out], rfl⟩
            · have hd : decide (be ≤ frm ∧ acc = []) = false := decide_eq_false (fun h => hac h.2)
              have HD := Lib.hid hd
              have h0 : ((acc.length : Int) == 0) = false := beq_eq_false_iff_ne.2 (by have := List.length_pos_iff.2 hac; omega)
              clear hac hd
              go_wp2_with fail
              go_simp
              go_meet
              case rel => exact ⟨by rw [HD.out], rfl⟩
          · have hd : decide (be ≤ frm ∧ acc = []) = false := decide_eq_false (fun h => hbe h.1)
            have HD := Lib.hid hd
            clear hd
            go_wp2_with fail
            go_simp
            go_meet
            case rel => exact ⟨by rw [HD.out], rfl⟩
        obtain ⟨rfl, hwc⟩ := hcut
        obtain rfl := hwc.symm
        clear y1
        by_cases hdo : be ≤ frm ∧ acc = []
        · have hd : decide (be ≤ frm ∧ acc = []) = true := decide_eq_true hdo
          rw [hd]
          have HNX : Hid (lawGo frm mo (acc.map Bm.b) ((ms.drop (i + 1)).map Bm.b) = readL (ms.map Bm.b) frm most) := by
            have h1 := HT.out.1
            rw [HDR.out] at h1
            unfold lawGo at h1
            rw [if_pos ⟨hdo.1, by rw [hdo.2]; rfl⟩] at h1
            exact h1
          clear hd hdo y3
          go_wp2_with fail
          go_roundw
          case rel => exact ⟨_, i + 1, mo, acc, rfl, HIL.out, by go_num, rfl, HOW2.out, ⟨HNX.out, HT.out.2.1, by have := HT.out.2.2.1; omega, HT.out.2.2.2⟩, HC2.out⟩
          case measure => exact meas_two HIL.out
        · have hd : decide (be ≤ frm ∧ acc = []) = false := decide_eq_false hdo
          rw [hd]
          have HDO := Lib.hid hdo
          clear hd hdo
          go_upto_region 8 with fail
          go_cut [56] (fun bv wy => bv = .bool (decide (acc ≠ [] ∧ mo < (bl : Int))) ∧ wy = w2)
          case first =>
            by_cases hms : acc = []
            · have hd : decide (acc ≠ [] ∧ mo < (bl : Int)) = false := decide_eq_false (fun h => h.1 hms)
              have HD := Lib.hid hd
              have h0 : ¬ (0 : Int) < (acc.length : Int) := by rw [hms]; simp
              clear hms hd
              go_wp2_with fail
              go_simp
              go_meet
              case rel => exact ⟨by rw [HD.out], rfl⟩
            · have h0 : (0 : Int) < (acc.length : Int) := by have := List.length_pos_iff.2 hms; omega
              by_cases hmo : mo < (bl : Int)
              · have hd : decide (acc ≠ [] ∧ mo < (bl : Int)) = true := decide_eq_true ⟨hms, hmo⟩
                have HD := Lib.hid hd
                clear hms hd
                go_wp2_with fail
                go_simp
                go_meet
                case rel => exact ⟨by rw [HD.out], rfl⟩
              · have hd : decide (acc ≠ [] ∧ mo < (bl : Int)) = false := decide_eq_false (fun h => hmo h.2)
                have HD := Lib.hid hd
                clear hms hd
                go_wp2_with fail
                go_simp
                go_meet
                case rel => exact ⟨by rw [HD.out], rfl⟩
          obtain ⟨rfl, hwc⟩ := hcut
          obtain rfl := hwc.symm
          have HGO : Hid (lawGo frm mo (acc.map Bm.b) ((ms.drop i).map Bm.b) = if acc ≠ [] ∧ mo < (bl : Int) then acc.map Bm.b else lawGo frm (wrap64 (mo - (bl : Nat))) (acc.map Bm.b ++ [⟨bb, be, brs⟩]) ((ms.drop (i + 1)).map Bm.b)) := by
            unfold Hid
            have hbl : (Bt.mk bb be brs).bytes.length = bl := HBL.out
            have e : (acc.map Bm.b ≠ [] ∧ mo < (bl : Int)) ↔ (acc ≠ [] ∧ mo < (bl : Int)) := by simp
            rw [HDR.out]
            show lawGo frm mo (acc.map Bm.b) (⟨bb, be, brs⟩ :: (ms.drop (i + 1)).map Bm.b) = _
            rw [lawGo, if_neg (fun h => HDO.out ⟨h.1, by simpa using h.2⟩), hbl]
            by_cases hq : acc ≠ [] ∧ mo < (bl : Int)
            · rw [if_pos (e.2 hq), if_pos hq]
            · rw [if_neg (fun h => hq (e.1 h)), if_neg hq]
          by_cases hdo : acc ≠ [] ∧ mo < (bl : Int)
          · have hd : decide (acc ≠ [] ∧ mo < (bl : Int)) = true := decide_eq_true hdo
            rw [hd]
            have HEND : Hid (acc.map Bm.b = readL (ms.map Bm.b) frm most) := by
              have h1 := HT.out.1
              rw [HGO.out, if_pos hdo] at h1
              exact h1
            clear hd hdo y3
            go_wp2_with fail
            go_meet
            case rel => exact ⟨acc, HOW2.out, HEND.out, HT.out.2.1, by have := HT.out.2.2.1; have := HML.out; have := HIL.out; omega, HC2.out⟩
          · have hd : decide (acc ≠ [] ∧ mo < (bl : Int)) = false := decide_eq_false hdo
            rw [hd]
            have HNX : Hid (lawGo frm (wrap64 (mo - (bl : Nat))) ((acc ++ [(⟨⟨bb, be, brs⟩, ra, rc⟩ : Bm)]).map Bm.b) ((ms.drop (i + 1)).map Bm.b) = readL (ms.map Bm.b) frm most) := by
              have h1 := HT.out.1
              rw [HGO.out, if_neg hdo] at h1
              rw [List.map_append]
              exact h1
            clear hd hdo
            have y0 := HBX.out.cell (j := 0) rfl
            have y1 := HBX.out.cell (j := 1) rfl
            have y2 := HBX.out.cell (j := 2) rfl
            have h63 : acc.length + 1 ≤ maxLen := by have := HT.out.2.2.1; have := HML.out; have := HIL.out; unfold maxLen; omega
            have hby : (acc.length + 1) * 48 ≤ 140737488355328 := by have := HT.out.2.2.1; have := HML.out; have := HIL.out; omega
            have HH63 := Lib.hid h63
            have HBY := Lib.hid hby
            have hb1 := Box.new w2 [.int .i64 bb, .int .i64 be, .slice ra brs.length rc, .int .i64 (bl : Nat)] 49
            have HB1 := Lib.hid hb1
            clear hb1 h63 hby
            go_upto_region 10 with fail
            go_wp2_with (at_builtin; go_must (refine wpList_append_grew rfl (.tmp 61) (.tmp 63) 36 36 rfl rbtT _ Tryz.underlying36 (by intro _; simp) _ _ _ rfl (ownsRow_chg HOW2.out ((Chg.refl Nil w2).alloc _) (fun _ _ h => h)) _ 1 [.int .i64 bb, .int .i64 be, .slice ra brs.length rc, .int .i64 (bl : Nat)] rfl (Source.box HB1.out rfl (c4_one _ _ _ _ _ _)) HH63.out HBY.out ?_); intro v2 w7 hown2 hg2 _; obtain ⟨x2, n2, c2, rfl⟩ := ownsRow_form hown2)
            go_roundw
            case rel =>
              have hal1 := (Chg.refl Nil w2).alloc (.cells #[.int .i64 bb, .int .i64 be, .slice ra brs.length rc, .int .i64 (bl : Nat)] 49)
              have hz1 := hal1.size
              have hz2 := HC2.out.size
              refine ⟨_, i + 1, wrap64 (mo - (bl : Nat)), acc ++ [⟨⟨bb, be, brs⟩, ra, rc⟩], rfl, HIL.out, by go_num, rfl, ?_, ⟨HNX.out, ?_, ?_, ?_⟩, ?_⟩
              · unfold OwnQ
                rw [List.length_append, List.flatMap_append, List.flatMap_cons, List.flatMap_nil, List.append_nil]
                have hbl : (Bt.mk bb be brs).bytes.length = bl := HBL.out
                unfold Bm.c4 at hown2 ⊢
                simp only [hbl]
                exact hown2
              · intro m hm
                rcases List.mem_append.1 hm with hm | hm
                · exact HT.out.2.1 m hm
                · rw [List.mem_singleton.1 hm]; exact HMEM.out
              · rw [List.length_append]
                have := HT.out.2.2.1
                simp only [List.length_cons, List.length_nil]
                omega
              · intro k hk
                rcases hg2.own k hk with h1 | h1
                · exact HT.out.2.2.2 k h1
                · omega
              · exact (HC2.out.trans hal1 (fun _ h => h.elim)).trans hg2.chg (fun k hk => .inr (HT.out.2.2.2 k hk))
            case measure => exact meas_two HIL.out
      · have hii : ¬ (i : Int) < (ms.length : Int) := by omega
        have HEND : Hid (acc.map Bm.b = readL (ms.map Bm.b) frm most) := by
          have h1 := HT.out.1
          rw [List.drop_eq_nil_of_le (by omega)] at h1
          exact h1
        go_wp2_with fail
        go_meet
        case rel => exact ⟨acc, HOW.out, HEND.out, HT.out.2.1, by have := HT.out.2.2.1; have := HML.out; omega, HC.out⟩
  obtain ⟨acc, hacc, hab, ham, hal, hcc⟩ := hcut
  obtain ⟨aa, ac, ha, hale, hacell⟩ := hacc.val
  have hll : acc.length = rm.length := by
    have h1 := congrArg List.length (hab.trans HRB.out.symm)
    rw [List.length_map, List.length_map] at h1
    exact h1
  subst ha
  have HAC := Lib.hid hacell
  have HAM := Lib.hid ham
  have HCC := Lib.hid hcc
  have HEQ := Lib.hid (HRB.out.trans hab.symm)
  have HLL := Lib.hid hll
  rw [hll]
  have hll1 : ((rm.length : Int) == (rm.length : Int)) = true := beq_self_eq_true _
  have hrl := HRL.out
  clear hacc hab ham hal hcc hacell hale hll q1
  go_wp2_with fail
  go_loopw [14] (fun iv wr => ∃ (wq : World) (i : Nat), wq = wr ∧ i ≤ rm.length ∧ iv = .int .i64 i ∧ Chg Nil wc wr) (fun iv _ => rm.length - (RowKit.intOf iv).toNat)
  case atStart => exact ⟨_, 0, rfl, by omega, rfl, Chg.refl _ _⟩
  case round =>
    obtain ⟨wr, i, rfl, hi, rfl, hc⟩ := hrel
    have HC := Lib.hid hc
    clear hc
    by_cases hil : i < rm.length
    · have hii : (i : Int) < (rm.length : Int) := by omega
      obtain ⟨ub, rfl, hzu⟩ := HUC.out i hil
      obtain ⟨qb, rfl, hzq⟩ := HAC.out i (by rw [HLL.out]; exact hil)
      have heq := map_get HEQ.out hil (by rw [HLL.out]; exact hil)
      have hr1 := (HRA.out _ (List.getElem_mem hil)).1
      have hmm := HAM.out _ (List.getElem_mem (l := acc) (n := i) (by rw [HLL.out]; exact hil))
      have hr2 := HQR.out _ hmm
      have hnm := HNUM.out _ hmm
      obtain ⟨m1, hm1⟩ : ∃ m1, rm[i] = m1 := ⟨_, rfl⟩
      obtain ⟨m2, hm2⟩ : ∃ m2, acc[i]'(by rw [HLL.out]; exact hil) = m2 := ⟨_, rfl⟩
      rw [hm1] at hzu heq hr1
      rw [hm2] at hzq heq hr2 hnm
      clear hm1 hm2 hmm
      obtain ⟨⟨bb, be, brs⟩, ra1, rc1⟩ := m1
      obtain ⟨mb2, ra2, rc2⟩ := m2
      obtain rfl : Bt.mk bb be brs = mb2 := heq
      have HIL := Lib.hid hil
      have u0 := HC.out.cell (HCC.out.cell (hzu 0 _ rfl) (fun h => h)) (fun h => h)
      have u1 := HC.out.cell (HCC.out.cell (hzu 1 _ rfl) (fun h => h)) (fun h => h)
      have u2 := HC.out.cell (HCC.out.cell (hzu 2 _ rfl) (fun h => h)) (fun h => h)
      have q0 := HC.out.cell (hzq 0 _ rfl) (fun h => h)
      have q1 := HC.out.cell (hzq 1 _ rfl) (fun h => h)
      have q2 := HC.out.cell (hzq 2 _ rfl) (fun h => h)
      rw [Nat.add_zero] at u0 q0
      have HSA : Hid (∀ w', Chg Nil wr w' → Calls Tryz.prog 35 #[.slice ra1 brs.length rc1, .slice ra2 brs.length rc2] w' fun e w'' => e = .returned (.bool true) ∧ Chg Nil w' w'') := by
        intro w' hw'
        have h1 := (HCC.out.trans HC.out (fun _ h => h.elim)).trans hw' (fun _ h => h.elim)
        have h2 := HC1.out.trans h1 (fun _ h => h.elim)
        exact same_any ra1 ra2 brs rc1 rc2 w' (by have h5 : brs.length ≤ 50 := hnm.few; unfold maxLen; omega) (RecsAt.chg h1 hr1 (fun _ _ h => h)) (RecsAt.chg h2 hr2 (fun _ _ h => h))
      have hb1 : (bb == bb) = true := beq_self_eq_true _
      have hb2 : (be == be) = true := beq_self_eq_true _
      clear hzu hzq hr1 hr2 hnm hil
      go_upto_region 16 with fail
      refine wp_region_mono _ (Chg Nil) (by kernel_rfl) (fun _ _ _ h k => h.trans k (fun _ h => h.elim)) [[], [], [0, 1], [2], [3], [], [], [5, 6], [7], [8], [9], [4, 10], [11], [12], [12], [12, 13, 14], [12, 15], [12, 16], [12], [12], [12, 18, 19], [12, 20], [12, 21], [12, 22], [12, 17, 23], [12, 24], [25], [26], [26], [26, 27, 28], [26, 29], [26, 30], [26], [26], [26, 32, 33], [26, 34], [26, 35], [26, 36], [26, 31, 37], [26, 38], [26, 39]] rfl (by kernel_rfl) (Chg.refl _ _).drew ?_
      ((with_reducible apply Walk.eq); case h => (intro w2 hw2 N hN; simp only [depsOf, List.filterMap_nil, List.filterMap_cons, List.getElem?_toArray, List.getElem?_cons_zero, List.getElem?_cons_succ, Option.bind_some, List.nil_append, List.cons_append, Ob]; go_simp; (try go_bits); with_reducible exact hN _ (Chg.refl _ _)))
      ((with_reducible apply Walk.eq); case h => (intro w2 hw2 N hN; simp only [depsOf, List.filterMap_nil, List.filterMap_cons, List.getElem?_toArray, List.getElem?_cons_zero, List.getElem?_cons_succ, Option.bind_some, List.nil_append, List.cons_append, Ob]; go_simp; (try go_bits); with_reducible exact hN _ (Chg.refl _ _)))
      ((with_reducible apply Walk.eq); case h => (intro w2 hw2 N hN; simp only [depsOf, List.filterMap_nil, List.filterMap_cons, List.getElem?_toArray, List.getElem?_cons_zero, List.getElem?_cons_succ, Option.bind_some, List.nil_append, List.cons_append, Ob]; go_simp; (try go_bits); with_reducible exact hN _ (Chg.refl _ _)))
      ((with_reducible apply Walk.eq); case h => (intro w2 hw2 N hN; simp only [depsOf, List.filterMap_nil, List.filterMap_cons, List.getElem?_toArray, List.getElem?_cons_zero, List.getElem?_cons_succ, Option.bind_some, List.nil_append, List.cons_append, Ob]; go_simp; (try go_bits); with_reducible exact hN _ (Chg.refl _ _)))
      ((with_reducible apply Walk.eq); case h => (intro w2 hw2 N hN; have hq := hw2.cell u0 (fun h => h); simp only [depsOf, List.filterMap_nil, List.filterMap_cons, List.getElem?_toArray, List.getElem?_cons_zero, List.getElem?_cons_succ, Option.bind_some, List.nil_append, List.cons_append, Ob]; go_simp; with_reducible exact hN _ (Chg.refl _ _)))
      ((with_reducible apply Walk.eq); case h => (intro w2 hw2 N hN; simp only [depsOf, List.filterMap_nil, List.filterMap_cons, List.getElem?_toArray, List.getElem?_cons_zero, List.getElem?_cons_succ, Option.bind_some, List.nil_append, List.cons_append, Ob]; go_simp; (try go_bits); with_reducible exact hN _ (Chg.refl _ _)))
      ((with_reducible apply Walk.eq); case h => (intro w2 hw2 N hN; simp only [depsOf, List.filterMap_nil, List.filterMap_cons, List.getElem?_toArray, List.getElem?_cons_zero, List.getElem?_cons_succ, Option.bind_some, List.nil_append, List.cons_append, Ob]; go_simp; (try go_bits); with_reducible exact hN _ (Chg.refl _ _)))
      ((with_reducible apply Walk.eq); case h => (intro w2 hw2 N hN; simp only [depsOf, List.filterMap_nil, List.filterMap_cons, List.getElem?_toArray, List.getElem?_cons_zero, List.getElem?_cons_succ, Option.bind_some, List.nil_append, List.cons_append, Ob]; go_simp; (try go_bits); with_reducible exact hN _ (Chg.refl _ _)))
      ((with_reducible apply Walk.eq); case h => (intro w2 hw2 N hN; simp only [depsOf, List.filterMap_nil, List.filterMap_cons, List.getElem?_toArray, List.getElem?_cons_zero, List.getElem?_cons_succ, Option.bind_some, List.nil_append, List.cons_append, Ob]; go_simp; (try go_bits); with_reducible exact hN _ (Chg.refl _ _)))
      ((with_reducible apply Walk.eq); case h => (intro w2 hw2 N hN; simp only [depsOf, List.filterMap_nil, List.filterMap_cons, List.getElem?_toArray, List.getElem?_cons_zero, List.getElem?_cons_succ, Option.bind_some, List.nil_append, List.cons_append, Ob]; go_simp; (try go_bits); with_reducible exact hN _ (Chg.refl _ _)))
      ((with_reducible apply Walk.eq); case h => (intro w2 hw2 N hN; have hq := hw2.cell q0 (fun h => h); simp only [depsOf, List.filterMap_nil, List.filterMap_cons, List.getElem?_toArray, List.getElem?_cons_zero, List.getElem?_cons_succ, Option.bind_some, List.nil_append, List.cons_append, Ob]; go_simp; with_reducible exact hN _ (Chg.refl _ _)))
      ((with_reducible apply Walk.eq); case h => (intro w2 hw2 N hN; simp only [depsOf, List.filterMap_nil, List.filterMap_cons, List.getElem?_toArray, List.getElem?_cons_zero, List.getElem?_cons_succ, Option.bind_some, List.nil_append, List.cons_append, Ob]; go_simp; (try go_bits); with_reducible exact hN _ (Chg.refl _ _)))
      ((with_reducible apply Walk.eq); case h => (intro w2 hw2 N hN; simp only [depsOf, List.filterMap_nil, List.filterMap_cons, List.getElem?_toArray, List.getElem?_cons_zero, List.getElem?_cons_succ, Option.bind_some, List.nil_append, List.cons_append, Ob]; go_simp; (try go_bits); with_reducible exact hN _ (Chg.refl _ _)))
      ((with_reducible apply Walk.eq); case h => (intro w2 hw2 N hN; simp only [depsOf, List.filterMap_nil, List.filterMap_cons, List.getElem?_toArray, List.getElem?_cons_zero, List.getElem?_cons_succ, Option.bind_some, List.nil_append, List.cons_append, Ob]; go_simp; (try go_bits); with_reducible exact hN _ (Chg.refl _ _)))
      ((with_reducible apply Walk.eq); case h => (intro w2 hw2 N hN; simp only [depsOf, List.filterMap_nil, List.filterMap_cons, List.getElem?_toArray, List.getElem?_cons_zero, List.getElem?_cons_succ, Option.bind_some, List.nil_append, List.cons_append, Ob]; go_simp; (try go_bits); with_reducible exact hN _ (Chg.refl _ _)))
      ((with_reducible apply Walk.eq); case h => (intro w2 hw2 N hN; simp only [depsOf, List.filterMap_nil, List.filterMap_cons, List.getElem?_toArray, List.getElem?_cons_zero, List.getElem?_cons_succ, Option.bind_some, List.nil_append, List.cons_append, Ob]; go_simp; (try go_bits); with_reducible exact hN _ (Chg.refl _ _)))
      ((with_reducible apply Walk.eq); case h => (intro w2 hw2 N hN; simp only [depsOf, List.filterMap_nil, List.filterMap_cons, List.getElem?_toArray, List.getElem?_cons_zero, List.getElem?_cons_succ, Option.bind_some, List.nil_append, List.cons_append, Ob]; go_simp; (try go_bits); with_reducible exact hN _ (Chg.refl _ _)))
      ((with_reducible apply Walk.eq); case h => (intro w2 hw2 N hN; have hq := hw2.cell u1 (fun h => h); simp only [depsOf, List.filterMap_nil, List.filterMap_cons, List.getElem?_toArray, List.getElem?_cons_zero, List.getElem?_cons_succ, Option.bind_some, List.nil_append, List.cons_append, Ob]; go_simp; with_reducible exact hN _ (Chg.refl _ _)))
      ((with_reducible apply Walk.eq); case h => (intro w2 hw2 N hN; simp only [depsOf, List.filterMap_nil, List.filterMap_cons, List.getElem?_toArray, List.getElem?_cons_zero, List.getElem?_cons_succ, Option.bind_some, List.nil_append, List.cons_append, Ob]; go_simp; (try go_bits); with_reducible exact hN _ (Chg.refl _ _)))
      ((with_reducible apply Walk.eq); case h => (intro w2 hw2 N hN; simp only [depsOf, List.filterMap_nil, List.filterMap_cons, List.getElem?_toArray, List.getElem?_cons_zero, List.getElem?_cons_succ, Option.bind_some, List.nil_append, List.cons_append, Ob]; go_simp; (try go_bits); with_reducible exact hN _ (Chg.refl _ _)))
      ((with_reducible apply Walk.eq); case h => (intro w2 hw2 N hN; simp only [depsOf, List.filterMap_nil, List.filterMap_cons, List.getElem?_toArray, List.getElem?_cons_zero, List.getElem?_cons_succ, Option.bind_some, List.nil_append, List.cons_append, Ob]; go_simp; (try go_bits); with_reducible exact hN _ (Chg.refl _ _)))
      ((with_reducible apply Walk.eq); case h => (intro w2 hw2 N hN; simp only [depsOf, List.filterMap_nil, List.filterMap_cons, List.getElem?_toArray, List.getElem?_cons_zero, List.getElem?_cons_succ, Option.bind_some, List.nil_append, List.cons_append, Ob]; go_simp; (try go_bits); with_reducible exact hN _ (Chg.refl _ _)))
      ((with_reducible apply Walk.eq); case h => (intro w2 hw2 N hN; simp only [depsOf, List.filterMap_nil, List.filterMap_cons, List.getElem?_toArray, List.getElem?_cons_zero, List.getElem?_cons_succ, Option.bind_some, List.nil_append, List.cons_append, Ob]; go_simp; (try go_bits); with_reducible exact hN _ (Chg.refl _ _)))
      ((with_reducible apply Walk.eq); case h => (intro w2 hw2 N hN; have hq := hw2.cell q1 (fun h => h); simp only [depsOf, List.filterMap_nil, List.filterMap_cons, List.getElem?_toArray, List.getElem?_cons_zero, List.getElem?_cons_succ, Option.bind_some, List.nil_append, List.cons_append, Ob]; go_simp; with_reducible exact hN _ (Chg.refl _ _)))
      ((with_reducible apply Walk.eq); case h => (intro w2 hw2 N hN; simp only [depsOf, List.filterMap_nil, List.filterMap_cons, List.getElem?_toArray, List.getElem?_cons_zero, List.getElem?_cons_succ, Option.bind_some, List.nil_append, List.cons_append, Ob]; go_simp; (try go_bits); with_reducible exact hN _ (Chg.refl _ _)))
      ((with_reducible apply Walk.eq); case h => (intro w2 hw2 N hN; simp only [depsOf, List.filterMap_nil, List.filterMap_cons, List.getElem?_toArray, List.getElem?_cons_zero, List.getElem?_cons_succ, Option.bind_some, List.nil_append, List.cons_append, Ob]; go_simp; (try go_bits); with_reducible exact hN _ (Chg.refl _ _)))
      ((with_reducible apply Walk.eq); case h => (intro w2 hw2 N hN; simp only [depsOf, List.filterMap_nil, List.filterMap_cons, List.getElem?_toArray, List.getElem?_cons_zero, List.getElem?_cons_succ, Option.bind_some, List.nil_append, List.cons_append, Ob]; go_simp; (try go_bits); with_reducible exact hN _ (Chg.refl _ _)))
      ((with_reducible apply Walk.eq); case h => (intro w2 hw2 N hN; simp only [depsOf, List.filterMap_nil, List.filterMap_cons, List.getElem?_toArray, List.getElem?_cons_zero, List.getElem?_cons_succ, Option.bind_some, List.nil_append, List.cons_append, Ob]; go_simp; (try go_bits); with_reducible exact hN _ (Chg.refl _ _)))
      ((with_reducible apply Walk.eq); case h => (intro w2 hw2 N hN; simp only [depsOf, List.filterMap_nil, List.filterMap_cons, List.getElem?_toArray, List.getElem?_cons_zero, List.getElem?_cons_succ, Option.bind_some, List.nil_append, List.cons_append, Ob]; go_simp; (try go_bits); with_reducible exact hN _ (Chg.refl _ _)))
      ((with_reducible apply Walk.eq); case h => (intro w2 hw2 N hN; simp only [depsOf, List.filterMap_nil, List.filterMap_cons, List.getElem?_toArray, List.getElem?_cons_zero, List.getElem?_cons_succ, Option.bind_some, List.nil_append, List.cons_append, Ob]; go_simp; (try go_bits); with_reducible exact hN _ (Chg.refl _ _)))
      ((with_reducible apply Walk.eq); case h => (intro w2 hw2 N hN; simp only [depsOf, List.filterMap_nil, List.filterMap_cons, List.getElem?_toArray, List.getElem?_cons_zero, List.getElem?_cons_succ, Option.bind_some, List.nil_append, List.cons_append, Ob]; go_simp; (try go_bits); with_reducible exact hN _ (Chg.refl _ _)))
      ((with_reducible apply Walk.eq); case h => (intro w2 hw2 N hN; have hq := hw2.cell u2 (fun h => h); simp only [depsOf, List.filterMap_nil, List.filterMap_cons, List.getElem?_toArray, List.getElem?_cons_zero, List.getElem?_cons_succ, Option.bind_some, List.nil_append, List.cons_append, Ob]; go_simp; with_reducible exact hN _ (Chg.refl _ _)))
      ((with_reducible apply Walk.eq); case h => (intro w2 hw2 N hN; simp only [depsOf, List.filterMap_nil, List.filterMap_cons, List.getElem?_toArray, List.getElem?_cons_zero, List.getElem?_cons_succ, Option.bind_some, List.nil_append, List.cons_append, Ob]; go_simp; (try go_bits); with_reducible exact hN _ (Chg.refl _ _)))
      ((with_reducible apply Walk.eq); case h => (intro w2 hw2 N hN; simp only [depsOf, List.filterMap_nil, List.filterMap_cons, List.getElem?_toArray, List.getElem?_cons_zero, List.getElem?_cons_succ, Option.bind_some, List.nil_append, List.cons_append, Ob]; go_simp; (try go_bits); with_reducible exact hN _ (Chg.refl _ _)))
      ((with_reducible apply Walk.eq); case h => (intro w2 hw2 N hN; simp only [depsOf, List.filterMap_nil, List.filterMap_cons, List.getElem?_toArray, List.getElem?_cons_zero, List.getElem?_cons_succ, Option.bind_some, List.nil_append, List.cons_append, Ob]; go_simp; (try go_bits); with_reducible exact hN _ (Chg.refl _ _)))
      ((with_reducible apply Walk.eq); case h => (intro w2 hw2 N hN; simp only [depsOf, List.filterMap_nil, List.filterMap_cons, List.getElem?_toArray, List.getElem?_cons_zero, List.getElem?_cons_succ, Option.bind_some, List.nil_append, List.cons_append, Ob]; go_simp; (try go_bits); with_reducible exact hN _ (Chg.refl _ _)))
      ((with_reducible apply Walk.eq); case h => (intro w2 hw2 N hN; simp only [depsOf, List.filterMap_nil, List.filterMap_cons, List.getElem?_toArray, List.getElem?_cons_zero, List.getElem?_cons_succ, Option.bind_some, List.nil_append, List.cons_append, Ob]; go_simp; (try go_bits); with_reducible exact hN _ (Chg.refl _ _)))
      ((with_reducible apply Walk.eq); case h => (intro w2 hw2 N hN; have hq := hw2.cell q2 (fun h => h); simp only [depsOf, List.filterMap_nil, List.filterMap_cons, List.getElem?_toArray, List.getElem?_cons_zero, List.getElem?_cons_succ, Option.bind_some, List.nil_append, List.cons_append, Ob]; go_simp; with_reducible exact hN _ (Chg.refl _ _)))
      (with_reducible apply Walk.eq); case h =>
        intro w2 hw2 N hN
        simp only [depsOf, List.filterMap_nil, List.filterMap_cons, List.getElem?_toArray, List.getElem?_cons_zero, List.getElem?_cons_succ, Option.bind_some, List.nil_append, List.cons_append, Ob]
        go_simp
        refine (HSA.out w2 hw2).mono ?_
        rintro e w4 ⟨rfl, hc4⟩
        exact ⟨_, rfl, hN _ hc4⟩
      ((with_reducible apply Walk.eq); case h => (intro w2 hw2 N hN; simp only [depsOf, List.filterMap_nil, List.filterMap_cons, List.getElem?_toArray, List.getElem?_cons_zero, List.getElem?_cons_succ, Option.bind_some, List.nil_append, List.cons_append, Ob]; go_simp; (try go_bits); with_reducible exact hN _ (Chg.refl _ _)))
      ((with_reducible apply Walk.eq); case h => (intro w2 hw2 N hN; simp only [depsOf, List.filterMap_nil, List.filterMap_cons, List.getElem?_toArray, List.getElem?_cons_zero, List.getElem?_cons_succ, Option.bind_some, List.nil_append, List.cons_append, Ob]; go_simp; (try go_bits); with_reducible exact hN _ (Chg.refl _ _)))
      intro w6 hw6
      simp only [List.nil_append, List.cons_append, Fin]
      have HW6 := Lib.hid hw6
      clear hw6 u0 u1 u2 q0 q1 q2
      go_simp
      go_wp2_with fail
      go_roundw
      case rel => exact ⟨_, i + 1, rfl, HIL.out, by go_num, HC.out.trans HW6.out (fun _ h => h.elim)⟩
      case measure => exact meas_two HIL.out
    · have hii : ¬ (i : Int) < (rm.length : Int) := by omega
      go_wp2_with fail
      go_ret
      exact ⟨rfl, (HC1.out.trans HCC.out (fun _ h => h.elim)).trans HC.out (fun _ h => h.elim)⟩
end Go.Proofs.YtmaomebnigcgeaaGreatDoor
