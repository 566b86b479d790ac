/-
  The walk of LogGrows. (Of the logs' seat.)
-/
import Derived.Test.YtdjmifaidgbbaaaGreatDoorLa44
import Derived.Test.YtdjmifaidgbbaaaGreatDoorLa28
import Derived.Test.YtdjmifaidgbbaaaGreatDoorLa27
import Derived.Lib.LaidTab
import Derived.Stop.LaidErr
import Derived.Test.YtdjmifaidgbbaaaGreatDoorRows
import Derived.ProofKit
import Derived.ChangeSame
import Derived.ChangeVars
import Derived.JoinedOf
import Derived.RowKit
import Derived.RowKitTokens
import Derived.LaidLaws
import Derived.LaidHandle
import Derived.Lay
import Derived.LaidMore
import Derived.Stop.Joined
import Derived.Test.YtdjmifaidgbbaaaGreatDoorLa07
import Derived.Test.YtdjmifaidgbbaaaGreatDoorChecked
import Derived.Deep.Slices
import Derived.Deep.Fields
import Derived.OpenShut
set_option linter.unusedSimpArgs false
set_option linter.unusedVariables false
namespace Go.Proofs.YtdjmifaidgbbaaaGreatDoor
open Go.RowKit Go.Maps

/-- What LogGrows knows of its log. -/
structure GwK (n : Nat) (g : Lg) (xs : List SgB) (want : List Rec) (i : Nat) : Prop where
  start : g.start = n
  dir : g.dir = [112]
  stop : g.stop = n + want.length
  len : want.length ≤ 60 * i
  all : recsOf (allBts xs) = want
  low : ∀ r ∈ want, (n : Int) ≤ r.off
theorem GwK.told {n : Nat} {g : Lg} {xs : List SgB} {want : List Rec} {i : Nat} (h : GwK n g xs want i) : g.told xs = want := by
  unfold Lg.told recsFrom
  rw [h.all, h.start]
  exact List.filter_eq_self.2 (fun r hr => by unfold ge; simpa using h.low r hr)

set_option maxHeartbeats 0 in
set_option maxRecDepth 200000 in
theorem logGrows_in (mo : Int) (n : Nat) (hn : n ≤ 1099511618776) (pc : Int) (xa : Option Addr) (xs : List Rl) (xc : Nat) (w : World) (hxl : xs.length ≤ 20) (hok : ∀ x ∈ xs, x.Ok w) (hxa : RlsAt w xa xs) (hH : Handle w) (hT : Tabs w) :
    Calls Tryz.prog 3 #[.int .i64 mo, .int .i64 (n : Nat), .int .i64 pc, .slice xa xs.length xc] w fun e w' => e = .returned (.bool true) ∧ Chg Nil w w' := by
  have h0 : ¬ (n : Int) < 0 := by omega
  have h1 : ¬ (1099511618776 : Int) < (n : Int) := by omega
  have h20 : ¬ (20 : Int) < (xs.length : Int) := by omega
  have HNEW := Lib.hid (new_any 1048576 (by omega) w)
  have HLOG : Hid (∀ w', Chg Nil w w' → Calls Tryz.prog 9 #[] w' fun e w'' => e = .returned (.bool true) ∧ Chg Nil w' w'') := fun w' hc => logged_any (hH.chg hc (fun h => h)) (hT.chg hc)
  have HXA := Lib.hid hxa
  have HOK := Lib.hid hok
  have HT := Lib.hid hT
  have HH := Lib.hid hH
  have HNN := Lib.hid hn
  have HXL := Lib.hid hxl
  have HP3 := Lib.hid (pick_any mo 3000)
  have HP4 := Lib.hid (pick_any pc 3000)
  have HPL := Lib.hid (pickN_lt (a := mo) (n := 3000) (by omega))
  obtain ⟨pk, hpk⟩ : ∃ pk, pickN mo 3000 = pk := ⟨_, rfl⟩
  obtain ⟨pp, hpp⟩ : ∃ pp, pickN pc 3000 = pp := ⟨_, rfl⟩
  rw [hpk] at HP3 HPL
  rw [hpp] at HP4
  have hpkl : pk < 3000 := HPL.out
  clear hn hok hxa hH hT hxl hpk hpp
  go_enter Tryz.func3, Tryz.ntmps3
  go_wp2_with fail
  refine HNEW.out.mono ?_
  rintro e w1 ⟨p, mb, rfl, hp, hmb, hdm, hc1⟩
  have HDS := Lib.hid (DsS.start (by omega) hp hmb hdm hc1)
  have HC1 := Lib.hid hc1
  have HLG1 := Lib.hid (HLOG.out w1 hc1)
  clear hp hmb hdm hc1 HNEW
  go_wp2_with fail
  refine HLG1.out.mono ?_
  rintro e w2 ⟨rfl, hc2⟩
  have HDS2 := Lib.hid (HDS.out.nil hc2)
  have HC2 := Lib.hid (HC1.out.trans hc2 (fun _ h => h.elim))
  have HPK := Lib.hid (HP3.out w2 (by omega) (by omega))
  clear hc2 HLG1 HLOG HDS
  go_wp2_with fail
  refine HPK.out.mono ?_
  rintro e w3 ⟨rfl, hw3⟩
  obtain rfl := hw3
  have HOP := Lib.hid (LgI.open (by omega) HDS2.out HC2.out HT.out 112 (by decide) (100 + (pk : Int)) ⟨by omega, by omega⟩ n (by have := HNN.out; omega))
  clear HPK
  go_wp2_with fail
  refine HOP.out.mono ?_
  rintro e w4 ⟨l, rfl, hlg, hc4⟩
  have HLG := Lib.hid hlg
  have HC4 := Lib.hid hc4
  have hns : (newLg [112] (100 + (pk : Int)) n n).stop = (n : Int) := rfl
  have HK0 : Hid (GwK n (newLg [112] (100 + (pk : Int)) n n) [(⟨segName [112] n, n, [], 0⟩, [])] [] 0) := ⟨rfl, rfl, by rw [hns]; simp, Nat.le_refl _, rfl, fun r hr => by cases hr⟩
  clear hlg hc4 HOP HDS2 hns
  go_wp2_with fail
  go_loopw [12, 13] (fun wv iv wr => ∃ (wq : World) (i : Nat) (B : Nat → Prop) (m : Nat) (g : Lg) (ys : List SgB) (want : List Rec) (wv' : Value), wq = wr ∧ i ≤ xs.length ∧ iv = .int .i64 i ∧ wv' = wv ∧ m ≤ i ∧ LgI B wr p l 1048576 m g ys ∧ GwK n g ys want i ∧ OwnR 37 wr wv' want ∧ (∀ k, k < w.heap.size → B k) ∧ (∀ k, wv'.ownBlock = some k → B k ∧ w.heap.size ≤ k) ∧ Chg Nil w wr) (fun _ iv _ => xs.length - (RowKit.intOf iv).toNat)
  case atStart => exact ⟨_, 0, _, 0, _, _, [], _, rfl, Nat.zero_le _, rfl, rfl, Nat.le_refl _, HLG.out, HK0.out, OwnR.nil _ _, fun k hk => hk, (fun k hk => by cases hk), HC4.out⟩
  case round =>
    obtain ⟨wr, i, B, m, g, ys, want, wv, rfl, hi, rfl, rfl, hmi, hlg, hgk, how, hb0, hbw, hc⟩ := hrel
    have HLG := Lib.hid hlg
    have HGK := Lib.hid hgk
    have HC := Lib.hid hc
    have HMI := Lib.hid hmi
    have HB0 := Lib.hid hb0
    have HBW := Lib.hid hbw
    have HOW := Lib.hid how
    have HIX := Lib.hid hi
    obtain ⟨wa, wc, hwe⟩ : ∃ wa wc, wv = .slice wa want.length wc := ⟨_, _, how.form⟩
    subst hwe
    clear hlg hgk how hb0 hbw hc hmi
    have HHW : Hid (Handle wr) := HH.out.chg HC.out (fun h => h)
    have HTW : Hid (Tabs wr) := HT.out.chg HC.out
    have HBE : Hid (B 0) := HB0.out _ HH.out.lt
    have HTB : Hid (TabB B) := fun m hm k hk => HB0.out k (HT.out.lt m hm k hk)
    by_cases hil : i < xs.length
    · have hii : (i : Int) < (xs.length : Int) := by omega
      obtain ⟨b, off, rfl, hcell⟩ := HXA.out i hil
      have HXO := Lib.hid (HOK.out _ (List.getElem_mem hil))
      obtain ⟨x, hx⟩ : ∃ x, x = xs[i] := ⟨_, rfl⟩
      rw [← hx] at hcell HXO
      have HIL := Lib.hid hil
      clear hx hil
      obtain ⟨ra, rs, rc⟩ := x
      have HY := Lib.hid hcell
      have y0 := HC.out.cell hcell (fun h => h)
      simp only at y0
      have HY : Hid (w.cell? ⟨b, off + i, none⟩ = some (.slice ra rs.length rc)) := HY
      clear hcell
      by_cases h60 : (60 : Int) < (rs.length : Int)
      · go_wp2_with fail
        go_ret
        exact ⟨rfl, HC.out⟩
      have hrl : rs.length ≤ 60 := by omega
      have HRL := Lib.hid hrl
      have HAD := Lib.hid (HLG.out.add HHW.out HBE.out HTW.out HTB.out (by rw [HGK.out.dir]; decide) (by have := HMI.out; have := HXL.out; have := HIX.out; omega) (by have := HMI.out; have := HXL.out; have := HIX.out; omega) ra rs rc (by omega) HXO.out.rok (RecsAt.chg HC.out HXO.out.recs (fun _ _ h => h)))
      obtain ⟨st, hst⟩ : ∃ st, g.stop = st := ⟨_, rfl⟩
      have HST := Lib.hid hst
      rw [hst] at HAD
      obtain ⟨er, her⟩ : ∃ er, encErr st (st + rs.length) (numbered st rs) = er := ⟨_, rfl⟩
      rw [her] at HAD
      clear hst her
      go_wp2_with fail
      refine HAD.out.mono ?_
      rintro e w5 ⟨rfl, hbad, hgood, hc5⟩
      have HC5 := Lib.hid hc5
      have HCW5 : Hid (Chg Nil w w5) := HC.out.trans hc5 (fun k hk => .inr (Nat.le_of_not_lt fun h => hk (HB0.out k h)))
      have HOW5 := Lib.hid (HOW.out.chg hc5 (fun k hk hn => hn (HBW.out k hk).1))
      clear hc5 HAD y0
      by_cases he : er = 0
      · subst he
        obtain ⟨g', ys', hlg', hall, hd', _, hs', hp'⟩ := hgood rfl
        have HLG' := Lib.hid hlg'
        have hav : addV st 0 = .tuple #[.int .i64 ((n : Int) + (want.length : Nat)), .nilIface] := by
          unfold addV
          rw [if_pos rfl, ← HST.out, HGK.out.stop]
          rfl
        rw [hav]
        have hwl : want.length ≤ 1200 := by have := HGK.out.len; have := HXL.out; have := HIX.out; omega
        have hn1 : n ≤ 1099511618776 := HNN.out
        have HGK2 : Hid (GwK n g' ys' (want ++ numbered ((n : Int) + (want.length : Nat)) rs) (i + 1)) := by
          have hk := HGK.out
          have hnl : (numbered ((n : Int) + (want.length : Nat)) rs).length = rs.length := numbered_length _ _
          have hstn : st = (n : Int) + (want.length : Nat) := by rw [← HST.out]; exact hk.stop
          refine ⟨hs'.trans hk.start, hd'.trans hk.dir, ?_, ?_, ?_, fun r hr => ?_⟩
          · rw [hp', hstn, List.length_append, hnl]; omega
          · rw [List.length_append, hnl]; have := hk.len; omega
          · rw [hall, recsOf_append, hk.all, ← hstn]
            simp [recsOf]
          · rcases List.mem_append.1 hr with hr | hr
            · exact hk.low r hr
            · have := numbered_ge r hr; omega
        have HLO := Lib.hid hlg'.lo
        clear hlg' hall hd' hs' hp' hbad hgood hav
        have y0 := HCW5.out.cell HY.out (fun h => h)
        go_wp2_with fail
        clear y0
        go_loopw [12, 16] (fun uv kv wr => ∃ (wq : World) (k : Nat) (uv' : Value), wq = wr ∧ k ≤ rs.length ∧ kv = .int .i64 k ∧ uv' = uv ∧ OwnR 37 wr uv' (want ++ numbered ((n : Int) + (want.length : Nat)) (rs.take k)) ∧ (∀ j, uv'.ownBlock = some j → (B j ∨ w5.heap.size ≤ j) ∧ w.heap.size ≤ j) ∧ Chg B w5 wr ∧ Chg Nil w wr) (fun _ kv _ => rs.length - (RowKit.intOf kv).toNat)
        case atStart => exact ⟨_, 0, _, rfl, Nat.zero_le _, rfl, rfl, by rw [List.take_zero]; show OwnR _ _ _ (want ++ []); rw [List.append_nil]; exact HOW5.out, fun j hj => ⟨.inl (HBW.out j hj).1, (HBW.out j hj).2⟩, Chg.refl _ _, HCW5.out⟩
        case round =>
          obtain ⟨w6, k, uv, rfl, hk, rfl, rfl, hou, hub, hcb, hcn⟩ := hrel
          have HCB := Lib.hid hcb
          have HCN := Lib.hid hcn
          have HUB := Lib.hid hub
          have HOU := Lib.hid hou
          obtain ⟨vx, vn, vc, rfl⟩ := ownsRow_form hou
          have y0 := hcn.cell HY.out (fun h => h)
          clear hou hub hcb hcn
          by_cases hkl : k < rs.length
          · have hkk : (k : Int) < (rs.length : Int) := by omega
            obtain ⟨rb, ro, hra, hcell⟩ := RecsAt.chg HCN.out HXO.out.recs (fun _ _ h => h) k hkl
            have hra : ra = some ⟨rb, ro, none⟩ := hra
            subst hra
            have HSN : Hid (want ++ numbered ((n : Int) + (want.length : Nat)) (rs.take (k + 1)) = (want ++ numbered ((n : Int) + (want.length : Nat)) (rs.take k)) ++ [{ rs[k] with off := (n : Int) + (want.length : Nat) + k }]) := by
              unfold Hid
              rw [take_snoc rs k hkl, numbered_snoc, List.length_take, Nat.min_eq_left hk, List.append_assoc]
            have hpl : (want ++ numbered ((n : Int) + (want.length : Nat)) (rs.take k)).length = want.length + k := by rw [List.length_append, numbered_length, List.length_take, Nat.min_eq_left hk]
            obtain ⟨q, hq⟩ : ∃ q : Rec, rs[k] = q := ⟨_, rfl⟩
            have hcell : ∀ j u, (q.cells)[j]? = some u → w6.cell? ⟨rb, ro + k * 6 + j, none⟩ = some u := by rw [← hq]; exact hcell
            rw [hq] at HSN
            have HKL := Lib.hid hkl
            clear hq
            obtain ⟨qo, qt, qk, qkey, qg, qv⟩ := q
            have z0 := hcell 0 _ rfl
            have z1 := hcell 1 _ rfl
            have z2 := hcell 2 _ rfl
            have z3 := hcell 3 _ rfl
            have z4 := hcell 4 _ rfl
            have z5 := hcell 5 _ rfl
            rw [Nat.add_zero] at z0
            obtain ⟨P, hP⟩ : ∃ P, want ++ numbered ((n : Int) + (want.length : Nat)) (rs.take k) = P := ⟨_, rfl⟩
            rw [hP] at HOU HSN hpl
            have HP := Lib.hid hP
            have HW := Lib.hid hpl
            have h63 : P.length + 1 ≤ maxLen := by rw [hpl]; unfold maxLen; omega
            have hby : (P.length + 1) * 64 ≤ 140737488355328 := by rw [hpl]; omega
            have hb1 := Box.new (w6.alloc (.cells (Rec.cells ⟨(n : Int) + (want.length : Nat) + k, qt, qk, qkey, qg, qv⟩).toArray 37)) (Rec.cells ⟨(n : Int) + (want.length : Nat) + k, qt, qk, qkey, qg, qv⟩) 37
            have hsz1 : (w6.alloc (.cells (Rec.cells ⟨(n : Int) + (want.length : Nat) + k, qt, qk, qkey, qg, qv⟩).toArray 37)).heap.size = w6.heap.size + 1 := by simp
            rw [hsz1] at hb1
            have HB1 := Lib.hid hb1
            have HH63 := Lib.hid h63
            have HBY := Lib.hid hby
            clear hcell hP hpl h63 hby hb1 hsz1
            go_wp2_with (at_builtin; go_must (refine wpList_append_grew rfl (.tmp 105) (.tmp 107) 33 33 rfl recsT _ Tryz.underlying33 (by intro _; simp) _ _ _ rfl ((HOU.out.alloc _).alloc _) _ 1 (Rec.cells ⟨(n : Int) + (want.length : Nat) + k, qt, qk, qkey, qg, qv⟩) rfl (Source.box HB1.out rfl (Rec.cells_one _)) HH63.out HBY.out ?_); intro v2 w8 hown2 hg2 _; obtain ⟨x2, n2, c2, rfl⟩ := ownsRow_form hown2; have HOWN2 := Lib.hid hown2; have HG2 := Lib.hid hg2; clear hown2 hg2)
            go_roundw
            case rel =>
              have halT : ∀ S : Nat → Prop, Chg S w6 ((w6.alloc (.cells (Rec.cells ⟨(n : Int) + (want.length : Nat) + k, qt, qk, qkey, qg, qv⟩).toArray 37)).alloc (.cells (Rec.cells ⟨(n : Int) + (want.length : Nat) + k, qt, qk, qkey, qg, qv⟩).toArray 37)) := fun S => ((Chg.refl S _).alloc _).alloc _
              have hz6 := (HCB.out.trans (halT B) (fun k hk => .inl hk)).size
              have hz0 := (HCN.out.trans (halT Nil) (fun _ h => h.elim)).size
              refine ⟨_, k + 1, _, rfl, HKL.out, by go_num, rfl, ?_, fun j hj => ?_, ?_, ?_⟩
              · have h := HOWN2.out
                unfold OwnR
                rw [HSN.out, List.length_append, List.flatMap_append]
                simpa using h
              · rcases HG2.out.own j hj with h | h
                · exact HUB.out j h
                · exact ⟨.inr (Nat.le_trans hz6 h), Nat.le_trans hz0 h⟩
              · exact (HCB.out.trans (halT B) (fun k hk => .inl hk)).trans HG2.out.chg (fun j hj => (HUB.out j hj).1.imp id id)
              · exact (HCN.out.trans (halT Nil) (fun _ h => h.elim)).trans HG2.out.chg (fun j hj => .inr (HUB.out j hj).2)
            case measure => exact meas_two HKL.out
          · have hkk : ¬ (k : Int) < (rs.length : Int) := by omega
            have HFIN : Hid (rs.take k = rs) := List.take_of_length_le (by omega)
            go_wp2_with fail
            go_roundw
            case rel =>
              have hlt := ownsRow_lt HOU.out
              have h1 := HOU.out
              rw [HFIN.out] at h1
              exact ⟨_, i + 1, _, m + 1, g', ys', _, _, rfl, HIL.out, by go_num, rfl, by have := HMI.out; omega, HLG'.out.growC HCB.out, HGK2.out, h1, fun k hk => .inl (HB0.out k hk), fun j hj => ⟨(HUB.out j hj).1.imp id (fun h => ⟨h, hlt j hj⟩), (HUB.out j hj).2⟩, HCN.out⟩
            case measure => exact meas_two HIL.out
      · have hav : addV st er = .tuple #[.int .i64 0, .iface 65 (.int .i64 (er : Nat))] := by
          unfold addV
          rw [if_neg he, errD_ne he]
        rw [hav]
        have HLG' := Lib.hid (hbad he)
        have HGK2 : Hid (GwK n g ys want (i + 1)) := by
          have hk := HGK.out
          exact ⟨hk.start, hk.dir, hk.stop, by have := hk.len; omega, hk.all, hk.low⟩
        clear hbad hgood hav he
        go_wp2_with fail
        go_roundw
        case rel => exact ⟨_, i + 1, B, m + 1, g, ys, want, _, rfl, HIL.out, by go_num, rfl, by have := HMI.out; omega, HLG'.out, HGK2.out, HOW5.out, HB0.out, HBW.out, HCW5.out⟩
        case measure => exact meas_two HIL.out
    · have hii : ¬ (i : Int) < (xs.length : Int) := by omega
      have HPP := Lib.hid (HP4.out wr (by omega) (by omega))
      have HAL := Lib.hid (HLG.out.all (by rw [HGK.out.dir]; decide) (by have := HMI.out; have := HXL.out; have := HIX.out; omega) pp (by rw [HGK.out.told]; have := HGK.out.len; have := HXL.out; have := HIX.out; omega))
      rw [HGK.out.told] at HAL
      have hwl : want.length ≤ 1200 := by have := HGK.out.len; have := HXL.out; have := HIX.out; omega
      have hn1 : n ≤ 1099511618776 := HNN.out
      go_wp2_with fail
      refine HPP.out.mono ?_
      rintro e w5 ⟨rfl, hw5⟩
      obtain rfl := hw5
      clear HPP
      go_wp2_with fail
      refine HAL.out.mono ?_
      rintro e w6 ⟨v, rfl, hov, hvb, hc6⟩
      have HC6 : Hid (Chg Nil w w6) := HC.out.trans hc6 (fun _ h => h.elim)
      obtain ⟨va, vc, hve⟩ : ∃ va vc, v = .slice va want.length vc := ⟨_, _, hov.form⟩
      subst hve
      have HSA := Lib.hid (same_any va wa want vc wc w6 (by unfold maxLen; omega) hov.at (RecsAt.chg hc6 HOW.out.at (fun _ _ h => h)))
      have HEN := Lib.hid (fun (w' : World) (hw : Chg Nil w6 w') => ((HLG.out.nil hc6).nil hw).endAt (by have := HMI.out; have := HXL.out; have := HIX.out; omega))
      have HSR := Lib.hid (fun (w' : World) (hw : Chg Nil w6 w') => ((HLG.out.nil hc6).nil hw).startAt)
      rw [HGK.out.stop] at HEN
      rw [HGK.out.start] at HSR
      clear hov hvb hc6 HAL
      go_wp2_with fail
      refine HSA.out.mono ?_
      rintro e w7 ⟨rfl, hc7⟩
      have HE7 := Lib.hid (HEN.out w7 hc7)
      have HC7 := Lib.hid hc7
      clear hc7 HSA
      go_wp2_with fail
      refine HE7.out.mono ?_
      rintro e w8 ⟨rfl, hc8⟩
      have HC8 := Lib.hid (HC7.out.trans hc8 (fun _ h => h.elim))
      have HS8 := Lib.hid (HSR.out w8 HC8.out)
      clear hc8 HE7
      go_wp2_with fail
      refine HS8.out.mono ?_
      rintro e w9 ⟨rfl, hc9⟩
      have HC9 := Lib.hid ((HC6.out.trans HC8.out (fun _ h => h.elim)).trans hc9 (fun _ h => h.elim))
      clear hc9 HS8
      go_wp2_with fail
      go_ret
      exact ⟨rfl, HC9.out⟩
end Go.Proofs.YtdjmifaidgbbaaaGreatDoor

/-
  LogGrows, at any arguments.
-/
set_option linter.unusedSimpArgs false
set_option linter.unusedVariables false
namespace Go.Proofs.YtdjmifaidgbbaaaGreatDoor
open Go.RowKit Go.Maps

set_option maxHeartbeats 1000000 in
set_option maxRecDepth 100000 in
theorem logGrows_any (mo st pc : Int) (xa : Option Addr) (xs : List Rl) (xc : Nat) (w : World) (hH : Handle w) (hT : Tabs w) (hok : ∀ x ∈ xs, x.Ok w) (hxa : RlsAt w xa xs) :
    Calls Tryz.prog 3 #[.int .i64 mo, .int .i64 st, .int .i64 pc, .slice xa xs.length xc] w fun e w' => e = .returned (.bool true) ∧ Chg Nil w w' := by
  by_cases h0 : st < 0
  · clear hH hT hok hxa
    go_enter Tryz.func3, Tryz.ntmps3
    go_wp2_with fail
    go_ret
    exact ⟨rfl, Chg.refl _ _⟩
  by_cases h1 : (1099511618776 : Int) < st
  · clear hH hT hok hxa
    go_enter Tryz.func3, Tryz.ntmps3
    go_wp2_with fail
    go_ret
    exact ⟨rfl, Chg.refl _ _⟩
  by_cases h2 : (20 : Int) < (xs.length : Int)
  · clear hH hT hok hxa
    go_enter Tryz.func3, Tryz.ntmps3
    go_wp2_with fail
    go_ret
    exact ⟨rfl, Chg.refl _ _⟩
  obtain ⟨n, rfl⟩ : ∃ n : Nat, st = (n : Int) := ⟨st.toNat, by omega⟩
  exact logGrows_in mo n (by omega) pc xa xs xc w (by omega) hok hxa hH hT
end Go.Proofs.YtdjmifaidgbbaaaGreatDoor

/-
  The listed variables of the logs' laws (errors.errorType; tables; two sentinels): what the rows' condition gives a walk, and a world that meets it.
-/
namespace Go.Proofs.YtdjmifaidgbbaaaGreatDoor
open Go.ChangeShapes Go.WideShapes Go.RowKit

abbrev seatLaid : List (String × DataW Unit) := [("math/bits.deBruijn32tab", Rows.laid_math_bits_deBruijn32tab), ("math/bits.deBruijn64tab", Rows.laid_math_bits_deBruijn64tab), ("internal/strconv.uint64pow10", Rows.laid_internal_strconv_uint64pow10), ("unicode/utf8.acceptRanges", Rows.laid_unicode_utf8_acceptRanges), ("errors.errorType", Rows.laid_errors_errorType), ("strconv.ErrRange", Rows.laid_strconv_ErrRange), ("strconv.ErrSyntax", Rows.laid_strconv_ErrSyntax), ("unicode/utf8.first", Rows.laid_unicode_utf8_first)]
theorem laid_et : Tryz.prog.globalNamed "errors.errorType" = some 0 := by kernel_rfl
theorem laid_rt : (Tryz.prog.cutTypes.find? (·.1 == "internal/reflectlite.rtype")).map (·.2) = some 236 := by kernel_rfl
theorem laid_size : ∃ n, Tryz.prog.types.size = n ∧ ((List.range n).filter fun t => Tryz.prog.rowNamed t [101, 114, 114, 111, 114]) = [25] := ⟨_, rfl, by kernel_rfl⟩

/-- WHAT THE CONDITION GIVES A WALK: the variable's one cell. -/
theorem handle_of_laid {W : World} (h : laidMetH Tryz.prog seatLaid W) : Handle W := by
  have h' : laidMet Tryz.prog [("math/bits.deBruijn32tab", Rows.laid_math_bits_deBruijn32tab), ("math/bits.deBruijn64tab", Rows.laid_math_bits_deBruijn64tab), ("internal/strconv.uint64pow10", Rows.laid_internal_strconv_uint64pow10), ("unicode/utf8.acceptRanges", Rows.laid_unicode_utf8_acceptRanges), ("strconv.ErrRange", Rows.laid_strconv_ErrRange), ("strconv.ErrSyntax", Rows.laid_strconv_ErrSyntax), ("unicode/utf8.first", Rows.laid_unicode_utf8_first)] W ∧ handlesMet Tryz.prog [("errors.errorType", Rows.laid_errors_errorType)] W := h
  obtain ⟨name, u, ty, e1, e2, e3, e4, e5⟩ := h'.2 _ (List.mem_singleton.2 rfl)
  have en : name = [101, 114, 114, 111, 114] := (Option.some.inj e1).symm
  subst en
  obtain rfl := Option.some.inj (laid_rt.symm.trans e2)
  obtain ⟨n, hn, ho⟩ := laid_size
  have hm : ty ∈ (List.range n).filter fun t => Tryz.prog.rowNamed t [101, 114, 114, 111, 114] := List.mem_filter.2 ⟨List.mem_range.2 (by rw [← hn]; exact e3), e4⟩
  rw [ho] at hm
  obtain rfl := List.mem_singleton.1 hm
  have hh : typeHandle Tryz.prog 25 = .pointer (some ⟨9, 25, none⟩) := by kernel_rfl
  rw [hh] at e5
  simpa [Handle] using World.var?_cell laid_et e5 0

abbrev seatPlain : List (String × DataW Unit) := [("math/bits.deBruijn32tab", Rows.laid_math_bits_deBruijn32tab), ("math/bits.deBruijn64tab", Rows.laid_math_bits_deBruijn64tab), ("internal/strconv.uint64pow10", Rows.laid_internal_strconv_uint64pow10), ("unicode/utf8.acceptRanges", Rows.laid_unicode_utf8_acceptRanges), ("strconv.ErrRange", Rows.laid_strconv_ErrRange), ("strconv.ErrSyntax", Rows.laid_strconv_ErrSyntax), ("unicode/utf8.first", Rows.laid_unicode_utf8_first)]
/-- A world with the handle's cell laid .. -/
noncomputable def handWorld (os : Os) : World :=
  let w0 := World.holding Tryz.prog os ⟨#[], #[], []⟩
  { w0 with heap := w0.heap.modify 0 fun
      | .cells _ t frozen => .cells #[.iface 236 (.agg #[.pointer (some ⟨9, 25, none⟩)])] t frozen
      | o => o }
/-- .. and the tables behind it. -/
noncomputable def laidWorld (os : Os) : World := (handWorld os).layVars Tryz.prog seatPlain
theorem laidWorld_os (os : Os) : (laidWorld os).os = os := World.layVars_os _ _ _
theorem laidWorld_met (os : Os) (args : Array Value) : laidMetH Tryz.prog seatLaid ((laidWorld os).forCall (fun _ _ => 0) ⟨#[], args, []⟩).memory := by
  have h : laidMet Tryz.prog seatPlain (laidWorld os) := laidMet_layVars (w0 := handWorld os) ["math/bits.deBruijn32tab", "math/bits.deBruijn64tab", "internal/strconv.uint64pow10", "unicode/utf8.acceptRanges", "strconv.ErrRange", "strconv.ErrSyntax", "unicode/utf8.first"] [] rfl (by kernel_rfl) (by kernel_rfl) LaidIn.none
  exact laidMetH_of_parts (h.of_heap (by simp [World.memory, World.forCall, Input.heap])) (by kernel_rfl)

theorem tabs_of_laid {W : World} (h : laidMetH Tryz.prog seatLaid W) : Tabs W := by
  have h' : laidMet Tryz.prog seatPlain W ∧ handlesMet Tryz.prog [("errors.errorType", Rows.laid_errors_errorType)] W := h
  exact ⟨Lib.tabIs_of_head (g := 3) (t := 289) (e := 208) (n := 20) (by kernel_rfl) (by kernel_rfl) Tryz.underlying289 Tryz.underlying208 (by kernel_rfl) (by kernel_rfl) h'.1.tail.tail⟩
end Go.Proofs.YtdjmifaidgbbaaaGreatDoor

/-
  An argument that is a slice of records, as plain records.
-/
namespace Go.Proofs.YtdjmifaidgbbaaaGreatDoor
open Go.RowKit Go.ChangeShapes Go.WideShapes Go.Deep

theorem cellsR : Tryz.prog.cellsOf 37 = 6 := by kernel_rfl
theorem cellsI : Tryz.prog.cellsOf 3 = 1 := by kernel_rfl
theorem cellsB : Tryz.prog.cellsOf 4 = 1 := by kernel_rfl
theorem cellsS : Tryz.prog.cellsOf 9 = 1 := by kernel_rfl

theorem wf64 {n : Int} (h : (Lit.int .i64 n).wf = true) : -9223372036854775808 ≤ n ∧ n ≤ 9223372036854775807 := by
  simp [Lit.wf, IntKind.min, IntKind.max, IntKind.signed, IntKind.bits] at h
  omega

section
variable {H : Type} {enc : TypeId × Value → H} {w : World} {base : Nat} {spare : Nat → Bool} {held : Bool}

set_option maxRecDepth 100000 in
theorem rec_of_cells {n : Nat} {cs : List Value} {y : DataW H × List MemPlace} (h : DataW.trod enc Tryz.prog w base spare held n 37 cs = some y) : ∃ r : Rec, r.Ok ∧ cs = r.cells := by
  obtain ⟨xs, m, _, _, hl, hx, hg⟩ := DataW.trod_struct Tryz.underlying37 h
  rw [cellsR] at hl
  match cs, hl, xs, hx with
  | [c0, c1, c2, c3, c4, c5], _, [y0, y1, y2, y3, y4, y5], _ =>
    have g0 : DataW.trod enc Tryz.prog w base spare held m 3 [c0] = some y0 := by have := hg 0 _ rfl; simpa [cellsI, cellsB, cellsS] using this
    have g1 : DataW.trod enc Tryz.prog w base spare held m 3 [c1] = some y1 := by have := hg 1 _ rfl; simpa [cellsI, cellsB, cellsS] using this
    have g2 : DataW.trod enc Tryz.prog w base spare held m 4 [c2] = some y2 := by have := hg 2 _ rfl; simpa [cellsI, cellsB, cellsS] using this
    have g3 : DataW.trod enc Tryz.prog w base spare held m 9 [c3] = some y3 := by have := hg 3 _ rfl; simpa [cellsI, cellsB, cellsS] using this
    have g4 : DataW.trod enc Tryz.prog w base spare held m 4 [c4] = some y4 := by have := hg 4 _ rfl; simpa [cellsI, cellsB, cellsS] using this
    have g5 : DataW.trod enc Tryz.prog w base spare held m 9 [c5] = some y5 := by have := hg 5 _ rfl; simpa [cellsI, cellsB, cellsS] using this
    obtain ⟨o, e0, _, w0⟩ := DataW.trod_int Tryz.underlying3 g0
    obtain ⟨t, e1, _, w1⟩ := DataW.trod_int Tryz.underlying3 g1
    obtain ⟨k, e2, _⟩ := DataW.trod_bool Tryz.underlying4 g2
    obtain ⟨key, e3, _, w3⟩ := DataW.trod_string Tryz.underlying9 g3
    obtain ⟨g, e4, _⟩ := DataW.trod_bool Tryz.underlying4 g4
    obtain ⟨v, e5, _, w5⟩ := DataW.trod_string Tryz.underlying9 g5
    simp at e0 e1 e2 e3 e4 e5
    subst e0 e1 e2 e3 e4 e5
    exact ⟨⟨o, t, k, key, g, v⟩, ⟨wf64 w0, wf64 w1, w3, w5⟩, rfl⟩

theorem list_of {α : Type} {P : Nat → α → Prop} : ∀ (n : Nat), (∀ i, i < n → ∃ r, P i r) → ∃ l : List α, l.length = n ∧ ∀ i (hi : i < l.length), P i l[i]
  | 0, _ => ⟨[], rfl, fun i hi => by simp at hi⟩
  | n + 1, h => by
    obtain ⟨l, hl, hp⟩ := list_of n fun i hi => h i (by omega)
    obtain ⟨r, hr⟩ := h n (by omega)
    refine ⟨l ++ [r], by simp [hl], fun i hi => ?_⟩
    by_cases hin : i < l.length
    · rw [List.getElem_append_left hin]; exact hp i hin
    · have : i = l.length := by simp at hi; omega
      subst this
      rw [List.getElem_concat_length (by rfl)]
      rw [hl]; exact hr

theorem recs_open {fuel : Nat} {a : Option Addr} {len cap : Nat} {x : DataW H × List MemPlace} (h : DataW.trod enc Tryz.prog w base spare held fuel 33 [.slice a len cap] = some x) :
    ∃ rs : List Rec, rs.length = len ∧ len ≤ maxLen ∧ (∀ r ∈ rs, r.Ok) ∧ RecsAt w a rs := by
  rcases open_slice Tryz.underlying33 h with ⟨hcs, _⟩ | ⟨a', len', cap', m, n, D, Pl, hcs, _, hl, hm, hmm, _, hi⟩
  · simp at hcs
    obtain ⟨rfl, rfl, rfl⟩ := hcs
    exact ⟨[], rfl, Nat.zero_le _, by simp, fun i hi => by simp at hi⟩
  · simp at hcs
    obtain ⟨rfl, rfl, rfl⟩ := hcs
    have hlm : len ≤ m := by rw [hmm]; split <;> omega
    have each : ∀ i, i < len → ∃ r : Rec, r.Ok ∧ ∀ j u, r.cells[j]? = some u → w.cell? (a'.add (i * 6 + j)) = some u := by
      intro i hil
      obtain ⟨cs', hc, ht⟩ := hi i (by omega)
      rw [cellsR] at hc
      obtain ⟨r, hok, rfl⟩ := rec_of_cells ht
      obtain ⟨_, hcl, hat⟩ := World.cells?_some hc
      refine ⟨r, hok, fun j u hj => ?_⟩
      have hj6 : j < 6 := by
        have := (List.getElem?_eq_some_iff.1 hj).1
        simpa [Rec.cells] using this
      rw [← add_add, hat j hj6, hj]
    obtain ⟨rs, hrl, hp⟩ := list_of len each
    refine ⟨rs, hrl, by omega, fun r hr => ?_, fun i hir => ?_⟩
    · obtain ⟨i, hir, rfl⟩ := List.getElem_of_mem hr
      exact (hp i hir).1
    · have h0 := (hp 0 (by omega)).2 0 (.int .i64 (rs[0]'(by omega)).off) rfl
      obtain ⟨b, off, spot⟩ := a'
      have hspot : spot = none := by
        simpa [Addr.add] using World.cell?_spot h0
      subst hspot
      refine ⟨b, off, rfl, fun j u hj => ?_⟩
      have := (hp i hir).2 j u hj
      have e1 : (⟨b, off, none⟩ : Addr).add (i * 6 + j) = ⟨b, off + (i * 6 + j), none⟩ := by unfold Addr.add; split <;> simp_all
      rw [e1] at this
      rw [Nat.add_assoc]
      exact this
end
end Go.Proofs.YtdjmifaidgbbaaaGreatDoor

/-
  An argument that is a slice of slices of records, as plain data. (Of the logs' seat.)
-/
set_option linter.unusedSimpArgs false
set_option linter.unusedVariables false
namespace Go.Proofs.YtdjmifaidgbbaaaGreatDoor
open Go.RowKit Go.ChangeShapes Go.WideShapes Go.Deep

theorem cellsRs : Tryz.prog.cellsOf 33 = 1 := by kernel_rfl

section
variable {H : Type} {enc : TypeId × Value → H} {w : World} {base : Nat} {spare : Nat → Bool} {held : Bool}

theorem slice_form {n : Nat} {c : Value} {y : DataW H × List MemPlace} (h : DataW.trod enc Tryz.prog w base spare held n 33 [c] = some y) : ∃ a l k, c = .slice a l k := by
  rcases Go.Deep.open_slice Tryz.underlying33 h with ⟨hcs, _⟩ | ⟨a', len', cap', _, _, _, _, hcs, _⟩
  · simp at hcs; exact ⟨_, _, _, hcs⟩
  · simp at hcs; exact ⟨_, _, _, hcs⟩

theorem rls_open {fuel : Nat} {a : Option Addr} {len cap : Nat} {x : DataW H × List MemPlace} (h : DataW.trod enc Tryz.prog w base spare held fuel 22 [.slice a len cap] = some x) :
    ∃ rs : List Rl, rs.length = len ∧ len ≤ maxLen ∧ (∀ r ∈ rs, r.Ok w) ∧ RlsAt w a rs := by
  rcases open_slice Tryz.underlying22 h with ⟨hcs, _⟩ | ⟨a', len', cap', m, n, D, Pl, hcs, _, hl, hm, hmm, _, hi⟩
  · simp at hcs
    obtain ⟨rfl, rfl, rfl⟩ := hcs
    exact ⟨[], rfl, Nat.zero_le _, by simp, fun i hi => by simp at hi⟩
  · simp at hcs
    obtain ⟨rfl, rfl, rfl⟩ := hcs
    have hlm : len ≤ m := by rw [hmm]; split <;> omega
    have each : ∀ i, i < len → ∃ r : Rl, r.Ok w ∧ w.cell? (a'.add i) = some (.slice r.ra r.rs.length r.rc) := by
      intro i hil
      obtain ⟨cs', hc, ht⟩ := hi i (by omega)
      rw [cellsRs] at hc
      obtain ⟨_, hcl, hat⟩ := World.cells?_some hc
      match cs', hcl with
      | [c], _ =>
        obtain ⟨ra, rn, rc, rfl⟩ := slice_form ht
        obtain ⟨rs, rfl, _, hok, hr⟩ := recs_open ht
        refine ⟨⟨ra, rs, rc⟩, ⟨hr, hok⟩, ?_⟩
        have h1 := hat 0 (by omega)
        have e0 : ∀ x : Addr, x.add 0 = x := fun x => by unfold Addr.add; simp
        rw [Nat.mul_one, e0] at h1
        simpa using h1
    obtain ⟨rs, hrl, hp⟩ := list_of len each
    refine ⟨rs, hrl, by omega, fun r hr => ?_, fun i hir => ?_⟩
    · obtain ⟨i, hir, rfl⟩ := List.getElem_of_mem hr
      exact (hp i hir).1
    · have h0 := (hp i hir).2
      have h00 := (hp 0 (by omega)).2
      obtain ⟨b, off, spot⟩ := a'
      have hspot : spot = none := by
        simpa [Addr.add] using World.cell?_spot h00
      subst hspot
      have e1 : (⟨b, off, none⟩ : Addr).add i = ⟨b, off + i, none⟩ := by unfold Addr.add; split <;> simp_all
      rw [e1] at h0
      exact ⟨b, off, rfl, h0⟩
end
end Go.Proofs.YtdjmifaidgbbaaaGreatDoor
