/-
  The walk of LogCompacts. (Of the logs' seat.)
-/
import Derived.Test.YtdjmifaidgbbaaaGreatDoorLc43
import Derived.Test.YtdjmifaidgbbaaaGreatDoorLc44
import Derived.Deep.QuietTactic
import Derived.BigQuiet
import Derived.Test.YtdjmifaidgbbaaaGreatDoorLc24
import Derived.Lib.LaidTab
import Derived.Stop.LaidErr
import Derived.Test.YtdjmifaidgbbaaaGreatDoorRows
import Derived.ProofKit
import Derived.ChangeSame
import Derived.ChangeVars
import Derived.JoinedOf
import Derived.RowKit
import Derived.RowKitTokens
import Derived.LaidLaws
import Derived.LaidHandle
import Derived.Lay
import Derived.LaidMore
import Derived.Stop.Joined
import Derived.Test.YtdjmifaidgbbaaaGreatDoorLc06
import Derived.Test.YtdjmifaidgbbaaaGreatDoorChecked
import Derived.Deep.Slices
import Derived.Deep.Fields
import Derived.OpenShut
set_option linter.unusedSimpArgs false
set_option linter.unusedVariables false
namespace Go.Proofs.YtdjmifaidgbbaaaGreatDoor
open Go.RowKit Go.Maps

set_option maxHeartbeats 0 in
set_option maxRecDepth 200000 in
theorem logCompacts_in (mo : Int) (xa : Option Addr) (xs : List Rl) (xc : Nat) (nw ag : Int) (w : World) (hxl : xs.length ≤ 20) (hok : ∀ x ∈ xs, x.Ok w) (hxa : RlsAt w xa xs) (hH : Handle w) (hT : Tabs w) :
    Calls Tryz.prog 5 #[.int .i64 mo, .slice xa xs.length xc, .int .i64 nw, .int .i64 ag] w fun e w' => e = .returned (.bool true) ∧ Chg Nil w w' := by
  have h20 : ¬ (20 : Int) < (xs.length : Int) := by omega
  have HNEW := Lib.hid (new_any 1048576 (by omega) w)
  have HLOG : Hid (∀ w', Chg Nil w w' → Calls Tryz.prog 9 #[] w' fun e w'' => e = .returned (.bool true) ∧ Chg Nil w' w'') := fun w' hc => logged_any (hH.chg hc (fun h => h)) (hT.chg hc)
  have HXA := Lib.hid hxa
  have HOK := Lib.hid hok
  have HT := Lib.hid hT
  have HH := Lib.hid hH
  have HXL := Lib.hid hxl
  have HP3 := Lib.hid (pick_any mo 400)
  have HPN := Lib.hid (pick_any nw 1000)
  have HPA := Lib.hid (pick_any ag 1000)
  have HPL := Lib.hid (pickN_lt (a := mo) (n := 400) (by omega))
  obtain ⟨pk, hpk⟩ : ∃ pk, pickN mo 400 = pk := ⟨_, rfl⟩
  obtain ⟨pn, hpn⟩ : ∃ pn, pickN nw 1000 = pn := ⟨_, rfl⟩
  obtain ⟨pa, hpa⟩ : ∃ pa, pickN ag 1000 = pa := ⟨_, rfl⟩
  rw [hpk] at HP3 HPL
  rw [hpn] at HPN
  rw [hpa] at HPA
  have hpkl : pk < 400 := HPL.out
  clear hok hxa hH hT hxl hpk hpn hpa
  go_enter Tryz.func5, Tryz.ntmps5
  go_wp2_with fail
  have HP1 := Lib.hid (HPN.out w (by omega) (by omega))
  refine HP1.out.mono ?_
  rintro e w0 ⟨rfl, hw0⟩
  obtain rfl := hw0
  have HP2 := Lib.hid (HPA.out w (by omega) (by omega))
  go_wp2_with fail
  refine HP2.out.mono ?_
  rintro e w00 ⟨rfl, hw0⟩
  obtain rfl := hw0
  clear HP1 HP2
  go_wp2_with fail
  refine HNEW.out.mono ?_
  rintro e w1 ⟨p, mb, rfl, hp, hmb, hdm, hc1⟩
  have HDS := Lib.hid (DsS.start (by omega) hp hmb hdm hc1)
  have HC1 := Lib.hid hc1
  have HLG1 := Lib.hid (HLOG.out w1 hc1)
  clear hp hmb hdm hc1 HNEW
  go_wp2_with fail
  refine HLG1.out.mono ?_
  rintro e w2 ⟨rfl, hc2⟩
  have HDS2 := Lib.hid (HDS.out.nil hc2)
  have HC2 := Lib.hid (HC1.out.trans hc2 (fun _ h => h.elim))
  have HPK := Lib.hid (HP3.out w2 (by omega) (by omega))
  clear hc2 HLG1 HLOG HDS
  go_wp2_with fail
  refine HPK.out.mono ?_
  rintro e w3 ⟨rfl, hw3⟩
  obtain rfl := hw3
  have HOP := Lib.hid (LgI.open (by omega) HDS2.out HC2.out HT.out 112 (by decide) (100 + (pk : Int)) ⟨by omega, by omega⟩ 0 (by omega))
  clear HPK
  go_wp2_with fail
  refine HOP.out.mono ?_
  rintro e w4 ⟨l, rfl, hlg, hc4⟩
  have HLG := Lib.hid hlg
  have HC4 := Lib.hid hc4
  have HK0 : Hid (ZeroK (newLg [112] (100 + (pk : Int)) ((0 : Nat) : Int) 0) [(⟨segName [112] 0, ((0 : Nat) : Int), [], 0⟩, [])] 0) := ⟨rfl, rfl, Nat.le_refl _⟩
  clear hlg hc4 HOP HDS2
  go_wp2_with fail
  go_loopw [12] (fun iv wr => ∃ (wq : World) (i m : Nat) (g : Lg) (ys : List SgB), wq = wr ∧ i ≤ xs.length ∧ iv = .int .i64 i ∧ m ≤ i ∧ LgI (fun k => k < w.heap.size) wr p l 1048576 m g ys ∧ ZeroK g ys i ∧ Chg Nil w wr) (fun iv _ => xs.length - (RowKit.intOf iv).toNat)
  case atStart => exact ⟨_, 0, 0, _, _, rfl, Nat.zero_le _, rfl, Nat.le_refl _, HLG.out, HK0.out, HC4.out⟩
  case round =>
    obtain ⟨wr, i, m, g, ys, rfl, hi, rfl, hmi, hlg, hzk, hc⟩ := hrel
    have HLG := Lib.hid hlg
    have HZK := Lib.hid hzk
    have HC := Lib.hid hc
    have HMI : Hid (m ≤ 20 ∧ i ≤ 20 ∧ m ≤ i) := ⟨by have := HXL.out; omega, by have := HXL.out; omega, hmi⟩
    clear hlg hzk hc hmi
    have HHW : Hid (Handle wr) := HH.out.chg HC.out (fun h => h)
    have HTW : Hid (Tabs wr) := HT.out.chg HC.out
    by_cases hil : i < xs.length
    · have hii : (i : Int) < (xs.length : Int) := by omega
      obtain ⟨b, off, rfl, hcell⟩ := HXA.out i hil
      have HXO := Lib.hid (HOK.out _ (List.getElem_mem hil))
      obtain ⟨x, hx⟩ : ∃ x, x = xs[i] := ⟨_, rfl⟩
      rw [← hx] at hcell HXO
      have HIL := Lib.hid hil
      clear hx hil
      obtain ⟨ra, rs, rc⟩ := x
      have y0 := HC.out.cell hcell (fun h => h)
      simp only at y0
      clear hcell
      by_cases h60 : (60 : Int) < (rs.length : Int)
      · go_wp2_with fail
        go_ret
        exact ⟨rfl, HC.out⟩
      have hrl : rs.length ≤ 60 := by omega
      have HAD := Lib.hid (HLG.out.add HHW.out HH.out.lt HTW.out HT.out.lt (by rw [HZK.out.dir]; decide) (by have := HMI.out; omega) (by have := HMI.out; omega) ra rs rc (by omega) HXO.out.rok (RecsAt.chg HC.out HXO.out.recs (fun _ _ h => h)))
      obtain ⟨er, her⟩ : ∃ er, encErr g.stop (g.stop + rs.length) (numbered g.stop rs) = er := ⟨_, rfl⟩
      rw [her] at HAD
      clear her
      go_wp2_with fail
      refine HAD.out.mono ?_
      rintro e w5 ⟨rfl, hbad, hgood, hc5⟩
      have HC5 : Hid (Chg Nil w w5) := HC.out.trans hc5 (fun k hk => .inr (Nat.le_of_not_lt hk))
      have HNX : Hid (∃ g' ys', LgI (fun k => k < w.heap.size) w5 p l 1048576 (m + 1) g' ys' ∧ ZeroK g' ys' (i + 1)) := by
        have hk := HZK.out
        by_cases he : er = 0
        · obtain ⟨g', ys', h1, h2, h3, _, h5, _⟩ := hgood he
          exact ⟨g', ys', h1, h5.trans hk.start, h3.trans hk.dir, by rw [h2, List.length_append, List.length_singleton]; have := hk.few; omega⟩
        · exact ⟨g, ys, hbad he, hk.start, hk.dir, by have := hk.few; omega⟩
      clear hbad hgood hc5 HAD y0
      go_wp2_with fail
      obtain ⟨g', ys', h1, h2⟩ := HNX.out
      go_roundw
      case rel => exact ⟨_, i + 1, m + 1, g', ys', rfl, HIL.out, by go_num, by have := HMI.out; omega, h1, h2, HC5.out⟩
      case measure => exact meas_two HIL.out
    · have hii : ¬ (i : Int) < (xs.length : Int) := by omega
      have HHD : Hid (headIs g.start ys) := HLG.out.head0 HZK.out.start
      obtain ⟨L, hL⟩ : ∃ L, recsOf (allBts ys) = L := ⟨_, rfl⟩
      have HTL : Hid (g.told ys = L) := by rw [← hL]; exact HLG.out.toldAll HHD.out
      have HLL : Hid (L.length ≤ 1000) := by
        rw [← hL]
        have h1 := recsOf_len HLG.out.bOk.1
        have h2 := HZK.out.few
        have h3 := HMI.out
        unfold Hid
        omega
      have HUP : Hid (offUp 0 L) := by rw [← hL]; exact recsOf_up HLG.out.bOk.1 HLG.out.bOk.2.2.2
      have HKEY : Hid (∀ r ∈ L, r.key.size ≤ maxLen) := fun r hr => by
        rw [← hL] at hr
        obtain ⟨b, hb, hr⟩ := List.mem_flatMap.1 hr
        exact ((HLG.out.bOk.1 b hb).recs r hr).key
      have HYL : Hid (ys.length ≤ 21) := by have h2 := HLG.out.bOk.2.2.1; have h3 := HMI.out; unfold Hid; omega
      have HLE := Lib.hid hL
      have HAL := Lib.hid (HLG.out.all (by rw [HZK.out.dir]; decide) (by have := HMI.out; omega) 500 (by rw [HTL.out]; have := HLL.out; omega))
      rw [HTL.out] at HAL
      clear hL
      go_wp2_with fail
      refine HAL.out.mono ?_
      rintro e w5 ⟨v1, rfl, hov, hvb, hc5⟩
      have HOV := Lib.hid hov
      have HLT1 : Hid (∀ k, v1.ownBlock = some k → wr.heap.size ≤ k ∧ k < w5.heap.size) := fun k hk => ⟨hvb k hk, ownsRow_lt hov k hk⟩
      have HG5 := Lib.hid (HLG.out.growC (hc5.weak (S' := fun k => k < w.heap.size) (fun _ h => h.elim)))
      obtain ⟨B, hB⟩ : ∃ B : Nat → Prop, (fun k => k < w.heap.size ∨ (wr.heap.size ≤ k ∧ k < w5.heap.size)) = B := ⟨_, rfl⟩
      have HBW : Hid (∀ k, k < w.heap.size → B k) := fun k hk => by rw [← hB]; exact .inl hk
      have HBN : Hid (∀ k, wr.heap.size ≤ k → k < w5.heap.size → B k) := fun k h1 h2 => by rw [← hB]; exact .inr ⟨h1, h2⟩
      rw [hB] at HG5
      have HCW5 : Hid (Chg Nil w w5) := HC.out.trans hc5 (fun _ h => h.elim)
      obtain ⟨A, Z, hAZ, hcm⟩ := HG5.out.compact HZK.out.start (HH.out.chg HCW5.out (fun h => h)) (HBW.out _ HH.out.lt) HZK.out.dir (by have := HMI.out; omega) (by have := HMI.out; omega) (pn : Nat) (pa : Nat)
      rw [HLE.out] at hAZ
      have HAZ := Lib.hid hAZ
      have HCM := Lib.hid hcm
      clear hov hvb hc5 HAL hB hcm hAZ
      go_wp2_with fail
      refine HCM.out.mono ?_
      rintro e w6 ⟨g', zs, rfl, hlg', hcd, hhd', hzl, hc6⟩
      have HCD := Lib.hid hcd
      have HC6 := Lib.hid hc6
      have HOV6 := Lib.hid (HOV.out.chg hc6 (fun k hk hn => hn (HBN.out k (HLT1.out k hk).1 (HLT1.out k hk).2)))
      have HCW6 : Hid (Chg Nil w w6) := HCW5.out.trans hc6 (fun k hk => .inr (Nat.le_of_not_lt fun h => hk (HBW.out k h)))
      obtain ⟨P, hP⟩ : ∃ P, keepR (lastOf (A ++ Z)) (wrap64 ((pn : Int) - (pa : Int))) = P := ⟨_, rfl⟩
      have HPE := Lib.hid hP
      have HTL2 : Hid (g'.told zs = A.filter P ++ Z) := by
        rw [hlg'.toldAll hhd']
        obtain ⟨y2, z2, h1, h2, h3⟩ := hcd.recs
        rw [h1, allBts_snoc, h2, h3, hP]
        rfl
      obtain ⟨L2, hL2⟩ : ∃ L2, A.filter P ++ Z = L2 := ⟨_, rfl⟩
      rw [hL2] at HTL2
      have HL2 : Hid (L.filter (keepQ P Z) = L2) := by
        rw [← hL2, HAZ.out]
        exact stays (HAZ.out ▸ HUP.out)
      have hnum : A.length - (A.filter P).length + L2.length = L.length := by
        rw [← hL2, HAZ.out, List.length_append, List.length_append]
        have := List.length_filter_le P A
        omega
      have HLG6 := Lib.hid hlg'
      have HDR : Hid (g'.dir.length ≤ 100) := by show g'.dir.length ≤ 100; rw [hcd.dir, HZK.out.dir]; decide
      have HZL : Hid (zs.length ≤ 9999) := by have := HYL.out; unfold Hid; omega
      rw [hP]
      obtain ⟨nk, hnk⟩ : ∃ nk, A.length - (A.filter P).length = nk := ⟨_, rfl⟩
      rw [hnk] at hnum
      rw [hnk]
      have HNUM := Lib.hid hnum
      have HA6 := Lib.hid (hlg'.all HDR.out HZL.out 500 (by rw [HTL2.out]; have := HLL.out; omega))
      rw [HTL2.out] at HA6
      clear hlg' hcd hhd' hzl hc6 hP hL2 hnk hnum HCM HOV
      go_wp2_with fail
      refine HA6.out.mono ?_
      rintro e w7 ⟨v3, rfl, hov3, hvb3, hc7⟩
      have HOV3 := Lib.hid hov3
      have HC7 := Lib.hid hc7
      have HOV7 := Lib.hid (HOV6.out.chg hc7 (fun _ _ h => h))
      have HLT3 : Hid (∀ k, v3.ownBlock = some k → w6.heap.size ≤ k ∧ k < w7.heap.size) := fun k hk => ⟨hvb3 k hk, ownsRow_lt hov3 k hk⟩
      have HG7 := Lib.hid (HLG6.out.growC (hc7.weak (S' := B) (fun _ h => h.elim)))
      obtain ⟨B2, hB2⟩ : ∃ B2 : Nat → Prop, (fun k => B k ∨ (w6.heap.size ≤ k ∧ k < w7.heap.size)) = B2 := ⟨_, rfl⟩
      rw [hB2] at HG7
      have HB2W : Hid (∀ k, B k → B2 k) := fun k hk => by rw [← hB2]; exact .inl hk
      have HB2N : Hid (∀ k, w6.heap.size ≤ k → k < w7.heap.size → B2 k) := fun k h1 h2 => by rw [← hB2]; exact .inr ⟨h1, h2⟩
      have HCW7 : Hid (Chg Nil w w7) := HCW6.out.trans hc7 (fun _ h => h.elim)
      have HCM2 := Lib.hid (HG7.out.again HCD.out (HAZ.out ▸ HUP.out) (HH.out.chg HCW7.out (fun h => h)) (HB2W.out _ (HBW.out _ HH.out.lt)) HDR.out HZL.out)
      clear hov3 hvb3 hc7 HA6 hB2
      go_wp2_with fail
      refine HCM2.out.mono ?_
      rintro e w8 ⟨rfl, hc8⟩
      have HCW8 : Hid (Chg Nil w w8) := HCW7.out.trans hc8 (fun k hk => .inr (Nat.le_of_not_lt fun h => hk (HB2W.out _ (HBW.out k h))))
      have HOV8 := Lib.hid (HOV7.out.chg hc8 (fun k hk hn => hn (HB2W.out _ (HBN.out k (HLT1.out k hk).1 (HLT1.out k hk).2))))
      have HOW8 := Lib.hid (HOV3.out.chg hc8 (fun k hk hn => hn (HB2N.out k (HLT3.out k hk).1 (HLT3.out k hk).2)))
      obtain ⟨a1, c1, hv1, hc1l, hcell1⟩ := HOV8.out.valAt
      subst hv1
      obtain ⟨a3, c3, hv3, hc3l, hcell3⟩ := HOW8.out.valAt
      subst hv3
      have HR1 : Hid (RecsAt w8 a1 L) := HOV8.out.at
      have HR3 : Hid (RecsAt w8 a3 L2) := HOW8.out.at
      clear hcell1 hcell3 hc1l hc3l hc8 HCM2
      have HLAT := Lib.hid (latest_any a1 L c1 HR1.out (by have := HLL.out; omega) HKEY.out)
      obtain ⟨n1, hn1⟩ : ∃ n1, L.length = n1 := ⟨_, rfl⟩
      obtain ⟨n2, hn2⟩ : ∃ n2, L2.length = n2 := ⟨_, rfl⟩
      have HN1 := Lib.hid hn1
      have HN2 := Lib.hid hn2
      have hsum : (n2 : Int) + (nk : Int) = (n1 : Int) := by have := HNUM.out; omega
      have hn1l : n1 ≤ 1000 := by rw [← hn1]; exact HLL.out
      have hn2l : n2 ≤ 1000 := by omega
      have hnkl : nk ≤ 1000 := by omega
      rw [hn1] at HLAT
      rw [hn1, hn2]
      clear hn1 hn2
      go_wp2_with fail
      refine HLAT.out.mono ?_
      rintro e w9 ⟨lm, rfl, hnm, hlm, hc9⟩
      have HNM := Lib.hid hnm
      have HC9 : Hid (Chg Nil w w9) := HCW8.out.trans hc9 (fun _ h => h.elim)
      have HR19 : Hid (RecsAt w9 a1 L) := RecsAt.chg hc9 HR1.out (fun _ _ h => h)
      have HR39 : Hid (RecsAt w9 a3 L2) := RecsAt.chg hc9 HR3.out (fun _ _ h => h)
      obtain ⟨q, hq⟩ : ∃ q, keepQ P Z = q := ⟨_, rfl⟩
      have HQE := Lib.hid hq
      rw [hq] at HL2
      have hw1 : wrap64 ((n2 : Int) + (nk : Int)) = (n1 : Int) := by unfold wrap64; omega
      have hee : ((n1 : Int) == (n1 : Int)) = true := beq_self_eq_true _
      clear hnm hlm hc9 HLAT hq
      go_wp2_with fail
      clear hw1 hee hsum
      go_loopw [22, 21] (fun iv kv wr => ∃ (wq : World) (i k : Nat), wq = wr ∧ i ≤ n1 ∧ iv = .int .i64 i ∧ kv = .int .i64 k ∧ Hid (k = ((L.take i).filter q).length) ∧ Chg Nil w9 wr) (fun iv _ _ => n1 - (RowKit.intOf iv).toNat)
      case atStart => exact ⟨_, 0, 0, rfl, Nat.zero_le _, rfl, rfl, rfl, Chg.refl _ _⟩
      case round =>
        obtain ⟨wr2, i2, k, rfl, hi2, rfl, rfl, hkq, hc2⟩ := hrel
        have HKQ : Hid _ := hkq
        have HC2 := Lib.hid hc2
        clear hkq hc2
        have hkn : k ≤ n2 := by
          have h1 := HKQ.out
          have h2 : ((L.take i2).filter q).length ≤ (L.filter q).length := (List.Sublist.filter _ (List.take_sublist _ _)).length_le
          rw [HL2.out, HN2.out] at h2
          omega
        by_cases hin : i2 < n1
        · have hii : (i2 : Int) < (n1 : Int) := by omega
          have hil : i2 < L.length := by rw [HN1.out]; exact hin
          obtain ⟨b, off, rfl, hz⟩ := HR19.out i2 hil
          obtain ⟨r, hr⟩ : ∃ r : Rec, L[i2] = r := ⟨_, rfl⟩
          have hcell : ∀ t u, (r.cells)[t]? = some u → wr2.cell? ⟨b, off + i2 * 6 + t, none⟩ = some u := fun t u ht => HC2.out.cell (hz t u (by rw [hr]; exact ht)) (fun h => h)
          have HAT : Hid (q r = true → L2[k]? = some r) := fun hq => by
            have h1 := stays_at (p := q) hil (by rw [hr]; exact hq)
            rw [HL2.out, ← HKQ.out, hr] at h1
            exact h1
          have HNOT : Hid (¬ q r = true → ∀ r2, L2[k]? = some r2 → r.off < r2.off) := fun hq r2 h2 => by
            have h1 := stays_not (p := q) HUP.out hil (by rw [hr]; exact hq) r2 (by rw [HL2.out, ← HKQ.out]; exact h2)
            rw [hr] at h1
            exact h1
          have HTK : Hid (((L.take (i2 + 1)).filter q).length = k + (if q r = true then 1 else 0)) := by
            have h1 := stays_take (p := q) hil
            rw [hr, ← HKQ.out] at h1
            exact h1
          have HGO : Hid (¬ q r = true → r.keyed = true ∧ (r.off < ((lastOf L).lookup r.key.data.toList).getD 0 ∨ (r.gone = true ∧ r.time < wrap64 ((pn : Int) - (pa : Int))))) := fun hq => by
            rw [← HQE.out, ← HPE.out, ← HAZ.out] at hq
            exact goes hq
          have hks : r.key.size ≤ maxLen := HKEY.out r (by rw [← hr]; exact List.getElem_mem hil)
          have HIN := Lib.hid hin
          clear hz hr hil hin
          obtain ⟨ro, rt, rk, rkey, rg, rv⟩ := r
          have z0 := hcell 0 _ rfl
          have z1 := hcell 1 _ rfl
          have z2 := hcell 2 _ rfl
          have z3 := hcell 3 _ rfl
          have z4 := hcell 4 _ rfl
          have z5 := hcell 5 _ rfl
          rw [Nat.add_zero] at z0
          clear hcell
          have hbr := Box.new wr2 [.int .i64 ro, .int .i64 rt, .bool rk, .string rkey, .bool rg, .string rv] 37
          have halr := (Chg.refl Nil wr2).alloc (.cells #[.int .i64 ro, .int .i64 rt, .bool rk, .string rkey, .bool rg, .string rv] 37)
          have hbr : Box (wr2.alloc (.cells #[.int .i64 ro, .int .i64 rt, .bool rk, .string rkey, .bool rg, .string rv] 37)) wr2.heap.size [.int .i64 ro, .int .i64 rt, .bool rk, .string rkey, .bool rg, .string rv] 37 := hbr
          go_upto_region 30 with fail
          clear z0 z1 z2 z3 z4 z5
          obtain ⟨gy, hgy⟩ : ∃ gy, wr2.heap.size = gy := ⟨_, rfl⟩
          generalize hw7 : wr2.alloc (.cells #[.int .i64 ro, .int .i64 rt, .bool rk, .string rkey, .bool rg, .string rv] 37) = w10 at *
          rw [hgy] at hbr
          rw [hgy]
          have HBX := Lib.hid hbr
          have y0 := hbr.cell (j := 0) rfl
          have y1 := hbr.cell (j := 1) rfl
          have y2 := hbr.cell (j := 2) rfl
          have y3 := hbr.cell (j := 3) rfl
          have y4 := hbr.cell (j := 4) rfl
          have y5 := hbr.cell (j := 5) rfl
          have HC10 : Hid (Chg Nil w9 w10) := HC2.out.trans halr (fun _ h => h.elim)
          clear hbr halr hgy hw7
          by_cases hq : q ⟨ro, rt, rk, rkey, rg, rv⟩ = true
          · have hat := HAT.out hq
            obtain ⟨hkl, hke⟩ := List.getElem?_eq_some_iff.1 hat
            obtain ⟨b2, off2, rfl, hz2⟩ := HR39.out k hkl
            rw [hke] at hz2
            have x0 := HC10.out.cell (hz2 0 _ rfl) (fun h => h)
            have x1 := HC10.out.cell (hz2 1 _ rfl) (fun h => h)
            have x2 := HC10.out.cell (hz2 2 _ rfl) (fun h => h)
            have x3 := HC10.out.cell (hz2 3 _ rfl) (fun h => h)
            have x4 := HC10.out.cell (hz2 4 _ rfl) (fun h => h)
            have x5 := HC10.out.cell (hz2 5 _ rfl) (fun h => h)
            rw [Nat.add_zero] at x0
            rw [HN2.out] at hkl
            have hki : (k : Int) < (n2 : Int) := by omega
            have HTK1 : Hid (k + 1 = ((L.take (i2 + 1)).filter q).length) := by have h1 := HTK.out; rw [if_pos hq] at h1; exact h1.symm
            clear hat hz2 hke hq hks
            go_quiet (fail)
            go_wp2_with fail
            go_roundw
            case rel => exact ⟨_, i2 + 1, k + 1, rfl, HIN.out, by go_num, by go_num, HTK1.out, HC10.out.drewN _⟩
            case measure => exact meas_two HIN.out
          · have hgo := HGO.out hq
            have hrk : rk = true := hgo.1
            subst hrk
            have hgo : ro < ((lastOf L).lookup rkey.data.toList).getD 0 ∨ (rg = true ∧ rt < wrap64 ((pn : Int) - (pa : Int))) := hgo.2
            have HTK1 : Hid (k = ((L.take (i2 + 1)).filter q).length) := by have h1 := HTK.out; rw [if_neg hq, Nat.add_zero] at h1; exact h1.symm
            have HNT := Lib.hid (HNOT.out hq)
            obtain ⟨lv, hlv⟩ : ∃ lv, ((lastOf L).lookup rkey.data.toList).getD 0 = lv := ⟨_, rfl⟩
            have HLV := Lib.hid hlv
            rw [hlv] at hgo
            obtain ⟨lim, hlim⟩ : ∃ lim, wrap64 ((pn : Int) - (pa : Int)) = lim := ⟨_, rfl⟩
            rw [hlim] at hgo
            have HKS := Lib.hid hks
            have HGG := Lib.hid hgo
            clear hlv hq hgo hks
            by_cases hkk : k < n2
            · have hki : (k : Int) < (n2 : Int) := by omega
              have hkl : k < L2.length := by rw [HN2.out]; exact hkk
              obtain ⟨b2, off2, rfl, hz2⟩ := HR39.out k hkl
              obtain ⟨r2, hr2⟩ : ∃ r2 : Rec, L2[k] = r2 := ⟨_, rfl⟩
              rw [hr2] at hz2
              have hlt := HNT.out r2 (by rw [List.getElem?_eq_getElem hkl, hr2])
              have hne : ¬ r2.off = ro := by have h1 : ro < r2.off := hlt; omega
              clear hr2 hlt hkl
              obtain ⟨so, st, sk, skey, sg, sv⟩ := r2
              have hne : (so == ro) = false := beq_eq_false_iff_ne.2 hne
              have x0 := HC10.out.cell (hz2 0 _ rfl) (fun h => h)
              have x1 := HC10.out.cell (hz2 1 _ rfl) (fun h => h)
              have x2 := HC10.out.cell (hz2 2 _ rfl) (fun h => h)
              have x3 := HC10.out.cell (hz2 3 _ rfl) (fun h => h)
              have x4 := HC10.out.cell (hz2 4 _ rfl) (fun h => h)
              have x5 := HC10.out.cell (hz2 5 _ rfl) (fun h => h)
              rw [Nat.add_zero] at x0
              clear hz2
              go_quiet (fail)
              clear x0 x1 x2 x3 x4 x5 hne hki hkk
              have hd : Chg Nil w10 (w10.drewN nq) := (Chg.refl Nil w10).drewN _
              generalize hwd : w10.drewN nq = w11 at *
              have HC11 : Hid (Chg Nil w9 w11) := HC10.out.trans hd (fun _ h => h.elim)
              have hlk := (HNM.out.chg HC11.out (fun h => h)).look (s := rkey) HKS.out
              rw [HLV.out] at hlk
              have b1 := hd.cell y1 (fun h => h)
              have b0 := hd.cell y0 (fun h => h)
              have b2' := hd.cell y2 (fun h => h)
              have b3 := hd.cell y3 (fun h => h)
              have b4 := hd.cell y4 (fun h => h)
              clear hd hwd y0 y1 y2 y3 y4 y5
              by_cases he : lv = ro
              · obtain ⟨h1, h2⟩ : rg = true ∧ rt < lim := by
                  rcases HGG.out with h | h
                  · omega
                  · exact h
                subst h1
                have heb : (lv == ro) = true := by rw [he]; exact beq_self_eq_true _
                clear he
                go_simp
                go_wp2_with fail
                go_roundw
                case rel => exact ⟨_, i2 + 1, k, rfl, HIN.out, by go_num, rfl, HTK1.out, HC11.out⟩
                case measure => exact meas_two HIN.out
              · have heb : (lv == ro) = false := beq_eq_false_iff_ne.2 he
                clear he
                go_simp
                go_wp2_with fail
                go_roundw
                case rel => exact ⟨_, i2 + 1, k, rfl, HIN.out, by go_num, rfl, HTK1.out, HC11.out⟩
                case measure => exact meas_two HIN.out
            · have hki : ¬ (k : Int) < (n2 : Int) := by omega
              go_quiet (fail)
              clear hki hkk
              have hd : Chg Nil w10 (w10.drewN nq) := (Chg.refl Nil w10).drewN _
              generalize hwd : w10.drewN nq = w11 at *
              have HC11 : Hid (Chg Nil w9 w11) := HC10.out.trans hd (fun _ h => h.elim)
              have hlk := (HNM.out.chg HC11.out (fun h => h)).look (s := rkey) HKS.out
              rw [HLV.out] at hlk
              have b1 := hd.cell y1 (fun h => h)
              have b0 := hd.cell y0 (fun h => h)
              have b2' := hd.cell y2 (fun h => h)
              have b3 := hd.cell y3 (fun h => h)
              have b4 := hd.cell y4 (fun h => h)
              clear hd hwd y0 y1 y2 y3 y4 y5
              by_cases he : lv = ro
              · obtain ⟨h1, h2⟩ : rg = true ∧ rt < lim := by
                  rcases HGG.out with h | h
                  · omega
                  · exact h
                subst h1
                have heb : (lv == ro) = true := by rw [he]; exact beq_self_eq_true _
                clear he
                go_simp
                go_wp2_with fail
                go_roundw
                case rel => exact ⟨_, i2 + 1, k, rfl, HIN.out, by go_num, rfl, HTK1.out, HC11.out⟩
                case measure => exact meas_two HIN.out
              · have heb : (lv == ro) = false := beq_eq_false_iff_ne.2 he
                clear he
                go_simp
                go_wp2_with fail
                go_roundw
                case rel => exact ⟨_, i2 + 1, k, rfl, HIN.out, by go_num, rfl, HTK1.out, HC11.out⟩
                case measure => exact meas_two HIN.out
        · have hii : ¬ (i2 : Int) < (n1 : Int) := by omega
          have hke : k = n2 := by
            have h1 := HKQ.out
            rw [List.take_of_length_le (by rw [HN1.out]; omega), HL2.out, HN2.out] at h1
            exact h1
          have hkb : ((k : Int) == (n2 : Int)) = true := by rw [hke]; exact beq_self_eq_true _
          have HC92 : Hid (Chg Nil w wr2) := HC9.out.trans HC2.out (fun _ h => h.elim)
          clear hin hke
          go_wp2_with fail
          go_ret
          exact ⟨rfl, HC92.out⟩
end Go.Proofs.YtdjmifaidgbbaaaGreatDoor

/-
  LogCompacts, at any arguments.
-/
set_option linter.unusedSimpArgs false
set_option linter.unusedVariables false
namespace Go.Proofs.YtdjmifaidgbbaaaGreatDoor
open Go.RowKit Go.Maps

set_option maxHeartbeats 1000000 in
set_option maxRecDepth 100000 in
theorem logCompacts_any (mo : Int) (xa : Option Addr) (xs : List Rl) (xc : Nat) (nw ag : Int) (w : World) (hH : Handle w) (hT : Tabs w) (hok : ∀ x ∈ xs, x.Ok w) (hxa : RlsAt w xa xs) :
    Calls Tryz.prog 5 #[.int .i64 mo, .slice xa xs.length xc, .int .i64 nw, .int .i64 ag] w fun e w' => e = .returned (.bool true) ∧ Chg Nil w w' := by
  by_cases h2 : (20 : Int) < (xs.length : Int)
  · clear hH hT hok hxa
    go_enter Tryz.func5, Tryz.ntmps5
    go_wp2_with fail
    go_ret
    exact ⟨rfl, Chg.refl _ _⟩
  exact logCompacts_in mo xa xs xc nw ag w (by omega) hok hxa hH hT
end Go.Proofs.YtdjmifaidgbbaaaGreatDoor

/-
  The listed variables of the logs' laws (errors.errorType; tables; two sentinels): what the rows' condition gives a walk, and a world that meets it.
-/
namespace Go.Proofs.YtdjmifaidgbbaaaGreatDoor
open Go.ChangeShapes Go.WideShapes Go.RowKit

abbrev seatLaid : List (String × DataW Unit) := [("math/bits.deBruijn32tab", Rows.laid_math_bits_deBruijn32tab), ("math/bits.deBruijn64tab", Rows.laid_math_bits_deBruijn64tab), ("internal/strconv.uint64pow10", Rows.laid_internal_strconv_uint64pow10), ("unicode/utf8.acceptRanges", Rows.laid_unicode_utf8_acceptRanges), ("errors.errorType", Rows.laid_errors_errorType), ("strconv.ErrRange", Rows.laid_strconv_ErrRange), ("strconv.ErrSyntax", Rows.laid_strconv_ErrSyntax), ("unicode/utf8.first", Rows.laid_unicode_utf8_first)]
theorem laid_et : Tryz.prog.globalNamed "errors.errorType" = some 0 := by kernel_rfl
theorem laid_rt : (Tryz.prog.cutTypes.find? (·.1 == "internal/reflectlite.rtype")).map (·.2) = some 236 := by kernel_rfl
theorem laid_size : ∃ n, Tryz.prog.types.size = n ∧ ((List.range n).filter fun t => Tryz.prog.rowNamed t [101, 114, 114, 111, 114]) = [25] := ⟨_, rfl, by kernel_rfl⟩

/-- WHAT THE CONDITION GIVES A WALK: the variable's one cell. -/
theorem handle_of_laid {W : World} (h : laidMetH Tryz.prog seatLaid W) : Handle W := by
  have h' : laidMet Tryz.prog [("math/bits.deBruijn32tab", Rows.laid_math_bits_deBruijn32tab), ("math/bits.deBruijn64tab", Rows.laid_math_bits_deBruijn64tab), ("internal/strconv.uint64pow10", Rows.laid_internal_strconv_uint64pow10), ("unicode/utf8.acceptRanges", Rows.laid_unicode_utf8_acceptRanges), ("strconv.ErrRange", Rows.laid_strconv_ErrRange), ("strconv.ErrSyntax", Rows.laid_strconv_ErrSyntax), ("unicode/utf8.first", Rows.laid_unicode_utf8_first)] W ∧ handlesMet Tryz.prog [("errors.errorType", Rows.laid_errors_errorType)] W := h
  obtain ⟨name, u, ty, e1, e2, e3, e4, e5⟩ := h'.2 _ (List.mem_singleton.2 rfl)
  have en : name = [101, 114, 114, 111, 114] := (Option.some.inj e1).symm
  subst en
  obtain rfl := Option.some.inj (laid_rt.symm.trans e2)
  obtain ⟨n, hn, ho⟩ := laid_size
  have hm : ty ∈ (List.range n).filter fun t => Tryz.prog.rowNamed t [101, 114, 114, 111, 114] := List.mem_filter.2 ⟨List.mem_range.2 (by rw [← hn]; exact e3), e4⟩
  rw [ho] at hm
  obtain rfl := List.mem_singleton.1 hm
  have hh : typeHandle Tryz.prog 25 = .pointer (some ⟨9, 25, none⟩) := by kernel_rfl
  rw [hh] at e5
  simpa [Handle] using World.var?_cell laid_et e5 0

abbrev seatPlain : List (String × DataW Unit) := [("math/bits.deBruijn32tab", Rows.laid_math_bits_deBruijn32tab), ("math/bits.deBruijn64tab", Rows.laid_math_bits_deBruijn64tab), ("internal/strconv.uint64pow10", Rows.laid_internal_strconv_uint64pow10), ("unicode/utf8.acceptRanges", Rows.laid_unicode_utf8_acceptRanges), ("strconv.ErrRange", Rows.laid_strconv_ErrRange), ("strconv.ErrSyntax", Rows.laid_strconv_ErrSyntax), ("unicode/utf8.first", Rows.laid_unicode_utf8_first)]
/-- A world with the handle's cell laid .. -/
noncomputable def handWorld (os : Os) : World :=
  let w0 := World.holding Tryz.prog os ⟨#[], #[], []⟩
  { w0 with heap := w0.heap.modify 0 fun
      | .cells _ t frozen => .cells #[.iface 236 (.agg #[.pointer (some ⟨9, 25, none⟩)])] t frozen
      | o => o }
/-- .. and the tables behind it. -/
noncomputable def laidWorld (os : Os) : World := (handWorld os).layVars Tryz.prog seatPlain
theorem laidWorld_os (os : Os) : (laidWorld os).os = os := World.layVars_os _ _ _
theorem laidWorld_met (os : Os) (args : Array Value) : laidMetH Tryz.prog seatLaid ((laidWorld os).forCall (fun _ _ => 0) ⟨#[], args, []⟩).memory := by
  have h : laidMet Tryz.prog seatPlain (laidWorld os) := laidMet_layVars (w0 := handWorld os) ["math/bits.deBruijn32tab", "math/bits.deBruijn64tab", "internal/strconv.uint64pow10", "unicode/utf8.acceptRanges", "strconv.ErrRange", "strconv.ErrSyntax", "unicode/utf8.first"] [] rfl (by kernel_rfl) (by kernel_rfl) LaidIn.none
  exact laidMetH_of_parts (h.of_heap (by simp [World.memory, World.forCall, Input.heap])) (by kernel_rfl)

theorem tabs_of_laid {W : World} (h : laidMetH Tryz.prog seatLaid W) : Tabs W := by
  have h' : laidMet Tryz.prog seatPlain W ∧ handlesMet Tryz.prog [("errors.errorType", Rows.laid_errors_errorType)] W := h
  exact ⟨Lib.tabIs_of_head (g := 3) (t := 289) (e := 208) (n := 20) (by kernel_rfl) (by kernel_rfl) Tryz.underlying289 Tryz.underlying208 (by kernel_rfl) (by kernel_rfl) h'.1.tail.tail⟩
end Go.Proofs.YtdjmifaidgbbaaaGreatDoor

/-
  An argument that is a slice of records, as plain records.
-/
namespace Go.Proofs.YtdjmifaidgbbaaaGreatDoor
open Go.RowKit Go.ChangeShapes Go.WideShapes Go.Deep

theorem cellsR : Tryz.prog.cellsOf 37 = 6 := by kernel_rfl
theorem cellsI : Tryz.prog.cellsOf 3 = 1 := by kernel_rfl
theorem cellsB : Tryz.prog.cellsOf 4 = 1 := by kernel_rfl
theorem cellsS : Tryz.prog.cellsOf 9 = 1 := by kernel_rfl

theorem wf64 {n : Int} (h : (Lit.int .i64 n).wf = true) : -9223372036854775808 ≤ n ∧ n ≤ 9223372036854775807 := by
  simp [Lit.wf, IntKind.min, IntKind.max, IntKind.signed, IntKind.bits] at h
  omega

section
variable {H : Type} {enc : TypeId × Value → H} {w : World} {base : Nat} {spare : Nat → Bool} {held : Bool}

set_option maxRecDepth 100000 in
theorem rec_of_cells {n : Nat} {cs : List Value} {y : DataW H × List MemPlace} (h : DataW.trod enc Tryz.prog w base spare held n 37 cs = some y) : ∃ r : Rec, r.Ok ∧ cs = r.cells := by
  obtain ⟨xs, m, _, _, hl, hx, hg⟩ := DataW.trod_struct Tryz.underlying37 h
  rw [cellsR] at hl
  match cs, hl, xs, hx with
  | [c0, c1, c2, c3, c4, c5], _, [y0, y1, y2, y3, y4, y5], _ =>
    have g0 : DataW.trod enc Tryz.prog w base spare held m 3 [c0] = some y0 := by have := hg 0 _ rfl; simpa [cellsI, cellsB, cellsS] using this
    have g1 : DataW.trod enc Tryz.prog w base spare held m 3 [c1] = some y1 := by have := hg 1 _ rfl; simpa [cellsI, cellsB, cellsS] using this
    have g2 : DataW.trod enc Tryz.prog w base spare held m 4 [c2] = some y2 := by have := hg 2 _ rfl; simpa [cellsI, cellsB, cellsS] using this
    have g3 : DataW.trod enc Tryz.prog w base spare held m 9 [c3] = some y3 := by have := hg 3 _ rfl; simpa [cellsI, cellsB, cellsS] using this
    have g4 : DataW.trod enc Tryz.prog w base spare held m 4 [c4] = some y4 := by have := hg 4 _ rfl; simpa [cellsI, cellsB, cellsS] using this
    have g5 : DataW.trod enc Tryz.prog w base spare held m 9 [c5] = some y5 := by have := hg 5 _ rfl; simpa [cellsI, cellsB, cellsS] using this
    obtain ⟨o, e0, _, w0⟩ := DataW.trod_int Tryz.underlying3 g0
    obtain ⟨t, e1, _, w1⟩ := DataW.trod_int Tryz.underlying3 g1
    obtain ⟨k, e2, _⟩ := DataW.trod_bool Tryz.underlying4 g2
    obtain ⟨key, e3, _, w3⟩ := DataW.trod_string Tryz.underlying9 g3
    obtain ⟨g, e4, _⟩ := DataW.trod_bool Tryz.underlying4 g4
    obtain ⟨v, e5, _, w5⟩ := DataW.trod_string Tryz.underlying9 g5
    simp at e0 e1 e2 e3 e4 e5
    subst e0 e1 e2 e3 e4 e5
    exact ⟨⟨o, t, k, key, g, v⟩, ⟨wf64 w0, wf64 w1, w3, w5⟩, rfl⟩

theorem list_of {α : Type} {P : Nat → α → Prop} : ∀ (n : Nat), (∀ i, i < n → ∃ r, P i r) → ∃ l : List α, l.length = n ∧ ∀ i (hi : i < l.length), P i l[i]
  | 0, _ => ⟨[], rfl, fun i hi => by simp at hi⟩
  | n + 1, h => by
    obtain ⟨l, hl, hp⟩ := list_of n fun i hi => h i (by omega)
    obtain ⟨r, hr⟩ := h n (by omega)
    refine ⟨l ++ [r], by simp [hl], fun i hi => ?_⟩
    by_cases hin : i < l.length
    · rw [List.getElem_append_left hin]; exact hp i hin
    · have : i = l.length := by simp at hi; omega
      subst this
      rw [List.getElem_concat_length (by rfl)]
      rw [hl]; exact hr

theorem recs_open {fuel : Nat} {a : Option Addr} {len cap : Nat} {x : DataW H × List MemPlace} (h : DataW.trod enc Tryz.prog w base spare held fuel 33 [.slice a len cap] = some x) :
    ∃ rs : List Rec, rs.length = len ∧ len ≤ maxLen ∧ (∀ r ∈ rs, r.Ok) ∧ RecsAt w a rs := by
  rcases open_slice Tryz.underlying33 h with ⟨hcs, _⟩ | ⟨a', len', cap', m, n, D, Pl, hcs, _, hl, hm, hmm, _, hi⟩
  · simp at hcs
    obtain ⟨rfl, rfl, rfl⟩ := hcs
    exact ⟨[], rfl, Nat.zero_le _, by simp, fun i hi => by simp at hi⟩
  · simp at hcs
    obtain ⟨rfl, rfl, rfl⟩ := hcs
    have hlm : len ≤ m := by rw [hmm]; split <;> omega
    have each : ∀ i, i < len → ∃ r : Rec, r.Ok ∧ ∀ j u, r.cells[j]? = some u → w.cell? (a'.add (i * 6 + j)) = some u := by
      intro i hil
      obtain ⟨cs', hc, ht⟩ := hi i (by omega)
      rw [cellsR] at hc
      obtain ⟨r, hok, rfl⟩ := rec_of_cells ht
      obtain ⟨_, hcl, hat⟩ := World.cells?_some hc
      refine ⟨r, hok, fun j u hj => ?_⟩
      have hj6 : j < 6 := by
        have := (List.getElem?_eq_some_iff.1 hj).1
        simpa [Rec.cells] using this
      rw [← add_add, hat j hj6, hj]
    obtain ⟨rs, hrl, hp⟩ := list_of len each
    refine ⟨rs, hrl, by omega, fun r hr => ?_, fun i hir => ?_⟩
    · obtain ⟨i, hir, rfl⟩ := List.getElem_of_mem hr
      exact (hp i hir).1
    · have h0 := (hp 0 (by omega)).2 0 (.int .i64 (rs[0]'(by omega)).off) rfl
      obtain ⟨b, off, spot⟩ := a'
      have hspot : spot = none := by
        simpa [Addr.add] using World.cell?_spot h0
      subst hspot
      refine ⟨b, off, rfl, fun j u hj => ?_⟩
      have := (hp i hir).2 j u hj
      have e1 : (⟨b, off, none⟩ : Addr).add (i * 6 + j) = ⟨b, off + (i * 6 + j), none⟩ := by unfold Addr.add; split <;> simp_all
      rw [e1] at this
      rw [Nat.add_assoc]
      exact this
end
end Go.Proofs.YtdjmifaidgbbaaaGreatDoor

/-
  An argument that is a slice of slices of records, as plain data. (Of the logs' seat.)
-/
set_option linter.unusedSimpArgs false
set_option linter.unusedVariables false
namespace Go.Proofs.YtdjmifaidgbbaaaGreatDoor
open Go.RowKit Go.ChangeShapes Go.WideShapes Go.Deep

theorem cellsRs : Tryz.prog.cellsOf 33 = 1 := by kernel_rfl

section
variable {H : Type} {enc : TypeId × Value → H} {w : World} {base : Nat} {spare : Nat → Bool} {held : Bool}

theorem slice_form {n : Nat} {c : Value} {y : DataW H × List MemPlace} (h : DataW.trod enc Tryz.prog w base spare held n 33 [c] = some y) : ∃ a l k, c = .slice a l k := by
  rcases Go.Deep.open_slice Tryz.underlying33 h with ⟨hcs, _⟩ | ⟨a', len', cap', _, _, _, _, hcs, _⟩
  · simp at hcs; exact ⟨_, _, _, hcs⟩
  · simp at hcs; exact ⟨_, _, _, hcs⟩

theorem rls_open {fuel : Nat} {a : Option Addr} {len cap : Nat} {x : DataW H × List MemPlace} (h : DataW.trod enc Tryz.prog w base spare held fuel 22 [.slice a len cap] = some x) :
    ∃ rs : List Rl, rs.length = len ∧ len ≤ maxLen ∧ (∀ r ∈ rs, r.Ok w) ∧ RlsAt w a rs := by
  rcases open_slice Tryz.underlying22 h with ⟨hcs, _⟩ | ⟨a', len', cap', m, n, D, Pl, hcs, _, hl, hm, hmm, _, hi⟩
  · simp at hcs
    obtain ⟨rfl, rfl, rfl⟩ := hcs
    exact ⟨[], rfl, Nat.zero_le _, by simp, fun i hi => by simp at hi⟩
  · simp at hcs
    obtain ⟨rfl, rfl, rfl⟩ := hcs
    have hlm : len ≤ m := by rw [hmm]; split <;> omega
    have each : ∀ i, i < len → ∃ r : Rl, r.Ok w ∧ w.cell? (a'.add i) = some (.slice r.ra r.rs.length r.rc) := by
      intro i hil
      obtain ⟨cs', hc, ht⟩ := hi i (by omega)
      rw [cellsRs] at hc
      obtain ⟨_, hcl, hat⟩ := World.cells?_some hc
      match cs', hcl with
      | [c], _ =>
        obtain ⟨ra, rn, rc, rfl⟩ := slice_form ht
        obtain ⟨rs, rfl, _, hok, hr⟩ := recs_open ht
        refine ⟨⟨ra, rs, rc⟩, ⟨hr, hok⟩, ?_⟩
        have h1 := hat 0 (by omega)
        have e0 : ∀ x : Addr, x.add 0 = x := fun x => by unfold Addr.add; simp
        rw [Nat.mul_one, e0] at h1
        simpa using h1
    obtain ⟨rs, hrl, hp⟩ := list_of len each
    refine ⟨rs, hrl, by omega, fun r hr => ?_, fun i hir => ?_⟩
    · obtain ⟨i, hir, rfl⟩ := List.getElem_of_mem hr
      exact (hp i hir).1
    · have h0 := (hp i hir).2
      have h00 := (hp 0 (by omega)).2
      obtain ⟨b, off, spot⟩ := a'
      have hspot : spot = none := by
        simpa [Addr.add] using World.cell?_spot h00
      subst hspot
      have e1 : (⟨b, off, none⟩ : Addr).add i = ⟨b, off + i, none⟩ := by unfold Addr.add; split <;> simp_all
      rw [e1] at h0
      exact ⟨b, off, rfl, h0⟩
end
end Go.Proofs.YtdjmifaidgbbaaaGreatDoor
