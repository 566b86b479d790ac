/-
  The walk of LogRetains. (Of the logs' seat.)
-/
import Derived.Test.YtdjmifaidgbbaaaGreatDoorLc43
import Derived.Test.YtdjmifaidgbbaaaGreatDoorLc40
set_option linter.unusedSimpArgs false
set_option linter.unusedVariables false
namespace Go.Proofs.YtdjmifaidgbbaaaGreatDoor
open Go.RowKit Go.Maps

/-- What the laws know of a log that begins at 0. -/
structure ZeroK (g : Lg) (ys : List SgB) (i : Nat) : Prop where
  start : g.start = 0
  dir : g.dir = [112]
  few : (allBts ys).length ≤ i

set_option maxHeartbeats 0 in
set_option maxRecDepth 200000 in
theorem logRetains_in (mo : Int) (xa : Option Addr) (xs : List Rl) (xc : Nat) (nw ag by' : Int) (w : World) (hxl : xs.length ≤ 20) (hok : ∀ x ∈ xs, x.Ok w) (hxa : RlsAt w xa xs) (hH : Handle w) (hT : Tabs w) :
    Calls Tryz.prog 4 #[.int .i64 mo, .slice xa xs.length xc, .int .i64 nw, .int .i64 ag, .int .i64 by'] w fun e w' => e = .returned (.bool true) ∧ Chg Nil w w' := by
  have h20 : ¬ (20 : Int) < (xs.length : Int) := by omega
  have HNEW := Lib.hid (new_any 1048576 (by omega) w)
  have HLOG : Hid (∀ w', Chg Nil w w' → Calls Tryz.prog 9 #[] w' fun e w'' => e = .returned (.bool true) ∧ Chg Nil w' w'') := fun w' hc => logged_any (hH.chg hc (fun h => h)) (hT.chg hc)
  have HXA := Lib.hid hxa
  have HOK := Lib.hid hok
  have HT := Lib.hid hT
  have HH := Lib.hid hH
  have HXL := Lib.hid hxl
  have HP3 := Lib.hid (pick_any mo 400)
  have HPN := Lib.hid (pick_any nw 2000)
  have HPA := Lib.hid (pick_any ag 2000)
  have HPB := Lib.hid (pick_any by' 4000)
  have HPL := Lib.hid (pickN_lt (a := mo) (n := 400) (by omega))
  have HPAL := Lib.hid (pickN_lt (a := ag) (n := 2000) (by omega))
  have HPBL := Lib.hid (pickN_lt (a := by') (n := 4000) (by omega))
  obtain ⟨pk, hpk⟩ : ∃ pk, pickN mo 400 = pk := ⟨_, rfl⟩
  obtain ⟨pn, hpn⟩ : ∃ pn, pickN nw 2000 = pn := ⟨_, rfl⟩
  obtain ⟨pa, hpa⟩ : ∃ pa, pickN ag 2000 = pa := ⟨_, rfl⟩
  obtain ⟨pb, hpb⟩ : ∃ pb, pickN by' 4000 = pb := ⟨_, rfl⟩
  rw [hpk] at HP3 HPL
  rw [hpn] at HPN
  rw [hpa] at HPA HPAL
  rw [hpb] at HPB HPBL
  have hpkl : pk < 400 := HPL.out
  clear hok hxa hH hT hxl hpk hpn hpa hpb
  go_enter Tryz.func4, Tryz.ntmps4
  go_wp2_with fail
  refine HNEW.out.mono ?_
  rintro e w1 ⟨p, mb, rfl, hp, hmb, hdm, hc1⟩
  have HDS := Lib.hid (DsS.start (by omega) hp hmb hdm hc1)
  have HC1 := Lib.hid hc1
  have HLG1 := Lib.hid (HLOG.out w1 hc1)
  clear hp hmb hdm hc1 HNEW
  go_wp2_with fail
  refine HLG1.out.mono ?_
  rintro e w2 ⟨rfl, hc2⟩
  have HDS2 := Lib.hid (HDS.out.nil hc2)
  have HC2 := Lib.hid (HC1.out.trans hc2 (fun _ h => h.elim))
  have HPK := Lib.hid (HP3.out w2 (by omega) (by omega))
  clear hc2 HLG1 HLOG HDS
  go_wp2_with fail
  refine HPK.out.mono ?_
  rintro e w3 ⟨rfl, hw3⟩
  obtain rfl := hw3
  have HOP := Lib.hid (LgI.open (by omega) HDS2.out HC2.out HT.out 112 (by decide) (100 + (pk : Int)) ⟨by omega, by omega⟩ 0 (by omega))
  clear HPK
  go_wp2_with fail
  refine HOP.out.mono ?_
  rintro e w4 ⟨l, rfl, hlg, hc4⟩
  have HLG := Lib.hid hlg
  have HC4 := Lib.hid hc4
  have HK0 : Hid (ZeroK (newLg [112] (100 + (pk : Int)) ((0 : Nat) : Int) 0) [(⟨segName [112] 0, ((0 : Nat) : Int), [], 0⟩, [])] 0) := ⟨rfl, rfl, Nat.le_refl _⟩
  clear hlg hc4 HOP HDS2
  go_wp2_with fail
  go_loopw [14] (fun iv wr => ∃ (wq : World) (i m : Nat) (g : Lg) (ys : List SgB), wq = wr ∧ i ≤ xs.length ∧ iv = .int .i64 i ∧ m ≤ i ∧ LgI (fun k => k < w.heap.size) wr p l 1048576 m g ys ∧ ZeroK g ys i ∧ Chg Nil w wr) (fun iv _ => xs.length - (RowKit.intOf iv).toNat)
  case atStart => exact ⟨_, 0, 0, _, _, rfl, Nat.zero_le _, rfl, Nat.le_refl _, HLG.out, HK0.out, HC4.out⟩
  case round =>
    obtain ⟨wr, i, m, g, ys, rfl, hi, rfl, hmi, hlg, hzk, hc⟩ := hrel
    have HLG := Lib.hid hlg
    have HZK := Lib.hid hzk
    have HC := Lib.hid hc
    have HMI : Hid (m ≤ 20 ∧ i ≤ 20 ∧ m ≤ i) := ⟨by have := HXL.out; omega, by have := HXL.out; omega, hmi⟩
    clear hlg hzk hc hmi
    have HHW : Hid (Handle wr) := HH.out.chg HC.out (fun h => h)
    have HTW : Hid (Tabs wr) := HT.out.chg HC.out
    by_cases hil : i < xs.length
    · have hii : (i : Int) < (xs.length : Int) := by omega
      obtain ⟨b, off, rfl, hcell⟩ := HXA.out i hil
      have HXO := Lib.hid (HOK.out _ (List.getElem_mem hil))
      obtain ⟨x, hx⟩ : ∃ x, x = xs[i] := ⟨_, rfl⟩
      rw [← hx] at hcell HXO
      have HIL := Lib.hid hil
      clear hx hil
      obtain ⟨ra, rs, rc⟩ := x
      have y0 := HC.out.cell hcell (fun h => h)
      simp only at y0
      clear hcell
      by_cases h60 : (60 : Int) < (rs.length : Int)
      · go_wp2_with fail
        go_ret
        exact ⟨rfl, HC.out⟩
      have hrl : rs.length ≤ 60 := by omega
      have HAD := Lib.hid (HLG.out.add HHW.out HH.out.lt HTW.out HT.out.lt (by rw [HZK.out.dir]; decide) (by have := HMI.out; omega) (by have := HMI.out; omega) ra rs rc (by omega) HXO.out.rok (RecsAt.chg HC.out HXO.out.recs (fun _ _ h => h)))
      obtain ⟨er, her⟩ : ∃ er, encErr g.stop (g.stop + rs.length) (numbered g.stop rs) = er := ⟨_, rfl⟩
      rw [her] at HAD
      clear her
      go_wp2_with fail
      refine HAD.out.mono ?_
      rintro e w5 ⟨rfl, hbad, hgood, hc5⟩
      have HC5 : Hid (Chg Nil w w5) := HC.out.trans hc5 (fun k hk => .inr (Nat.le_of_not_lt hk))
      have HNX : Hid (∃ g' ys', LgI (fun k => k < w.heap.size) w5 p l 1048576 (m + 1) g' ys' ∧ ZeroK g' ys' (i + 1)) := by
        have hk := HZK.out
        by_cases he : er = 0
        · obtain ⟨g', ys', h1, h2, h3, _, h5, _⟩ := hgood he
          exact ⟨g', ys', h1, h5.trans hk.start, h3.trans hk.dir, by rw [h2, List.length_append, List.length_singleton]; have := hk.few; omega⟩
        · exact ⟨g, ys, hbad he, hk.start, hk.dir, by have := hk.few; omega⟩
      clear hbad hgood hc5 HAD y0
      go_wp2_with fail
      obtain ⟨g', ys', h1, h2⟩ := HNX.out
      go_roundw
      case rel => exact ⟨_, i + 1, m + 1, g', ys', rfl, HIL.out, by go_num, by have := HMI.out; omega, h1, h2, HC5.out⟩
      case measure => exact meas_two HIL.out
    · have hii : ¬ (i : Int) < (xs.length : Int) := by omega
      have HHD : Hid (headIs g.start ys) := HLG.out.head0 HZK.out.start
      obtain ⟨L, hL⟩ : ∃ L, recsOf (allBts ys) = L := ⟨_, rfl⟩
      have HTL : Hid (g.told ys = L) := by rw [← hL]; exact HLG.out.toldAll HHD.out
      have HLL : Hid (L.length ≤ 1000) := by
        rw [← hL]
        have h1 := recsOf_len HLG.out.bOk.1
        have h2 := HZK.out.few
        have h3 := HMI.out
        unfold Hid
        omega
      have HLE := Lib.hid hL
      have HAL := Lib.hid (HLG.out.all (by rw [HZK.out.dir]; decide) (by have := HMI.out; omega) 500 (by rw [HTL.out]; have := HLL.out; omega))
      rw [HTL.out] at HAL
      clear hL
      go_wp2_with fail
      refine HAL.out.mono ?_
      rintro e w5 ⟨v1, rfl, hov, hvb, hc5⟩
      have HOV := Lib.hid hov
      have HVB := Lib.hid hvb
      have HC5 := Lib.hid hc5
      have HSE := Lib.hid ((HLG.out.nil hc5).segs (by have := HMI.out; omega))
      clear hov hvb hc5 HAL
      go_wp2_with fail
      refine HSE.out.mono ?_
      rintro e w6 ⟨v2, rfl, hoz, hzb, hc6⟩
      have HOZ := Lib.hid hoz
      have HZB := Lib.hid hzb
      have HC6 : Hid (Chg Nil wr w6) := HC5.out.trans hc6 (fun _ h => h.elim)
      have HOV6 := Lib.hid (HOV.out.chg hc6 (fun _ _ h => h))
      have HEN := Lib.hid ((HLG.out.nil HC6.out).endAt (by have := HMI.out; omega))
      obtain ⟨en, hen⟩ : ∃ en, g.stop = en := ⟨_, rfl⟩
      rw [hen] at HEN
      have HEE := Lib.hid hen
      clear hoz hzb hc6 HSE HOV hen
      go_wp2_with fail
      refine HEN.out.mono ?_
      rintro e w7 ⟨rfl, hc7⟩
      have HC7 : Hid (Chg Nil wr w7) := HC6.out.trans hc7 (fun _ h => h.elim)
      have HOV7 := Lib.hid (HOV6.out.chg hc7 (fun _ _ h => h))
      have HOZ7 := Lib.hid (HOZ.out.chg hc7 (fun _ _ h => h))
      have HLT1 : Hid (∀ k, v1.ownBlock = some k → wr.heap.size ≤ k ∧ k < w7.heap.size) := fun k hk => ⟨HVB.out k hk, ownsRow_lt HOV7.out k hk⟩
      have HLT2 : Hid (∀ k, v2.ownBlock = some k → wr.heap.size ≤ k ∧ k < w7.heap.size) := fun k hk => ⟨Nat.le_trans HC5.out.size (HZB.out k hk), ownsRow_lt HOZ7.out k hk⟩
      have HG7 := Lib.hid (HLG.out.growC (HC7.out.weak (S' := fun k => k < w.heap.size) (fun _ h => h.elim)))
      obtain ⟨B, hB⟩ : ∃ B : Nat → Prop, (fun k => k < w.heap.size ∨ (wr.heap.size ≤ k ∧ k < w7.heap.size)) = B := ⟨_, rfl⟩
      have HBW : Hid (∀ k, k < w.heap.size → B k) := fun k hk => by rw [← hB]; exact .inl hk
      have HBN : Hid (∀ k, wr.heap.size ≤ k → k < w7.heap.size → B k) := fun k h1 h2 => by rw [← hB]; exact .inr ⟨h1, h2⟩
      rw [hB] at HG7
      have HCW7 : Hid (Chg Nil w w7) := HC.out.trans HC7.out (fun _ h => h.elim)
      have HRT := Lib.hid (fun (now age bytes : Int) => HG7.out.retain HHD.out (HH.out.chg HCW7.out (fun h => h)) (HBW.out _ HH.out.lt) (by rw [HZK.out.dir]; decide) (by have := HMI.out; omega) now age bytes)
      have HP1 := Lib.hid (HPN.out w7 (by omega) (by omega))
      have HP2 := Lib.hid (HPA.out w7 (by omega) (by omega))
      have HP4 := Lib.hid (HPB.out w7 (by omega) (by omega))
      have hpal : pa < 2000 := HPAL.out
      have hpbl : pb < 4000 := HPBL.out
      obtain ⟨bs, hbs⟩ : ∃ bs : List Int, (ys.map fun x => x.1.base) = bs := ⟨_, rfl⟩
      rw [hbs] at HOZ7
      have HBS := Lib.hid hbs
      have HBL : Hid (bs.length = ys.length) := by rw [← hbs, List.length_map]; rfl
      clear hc7 HEN hB hbs HOV6 HOZ
      go_wp2_with fail
      refine HP1.out.mono ?_
      rintro e w8 ⟨rfl, hw⟩
      obtain rfl := hw
      go_wp2_with fail
      refine HP2.out.mono ?_
      rintro e w8 ⟨rfl, hw⟩
      obtain rfl := hw
      go_wp2_with fail
      refine HP4.out.mono ?_
      rintro e w8 ⟨rfl, hw⟩
      obtain rfl := hw
      clear HP1 HP2 HP4
      go_wp2_with fail
      refine (HRT.out _ _ _).mono ?_
      rintro e w8 ⟨k, g', rfl, hk, hlg', hhd', hst', hdr', hc8⟩
      have HLG8 := Lib.hid hlg'
      have HHD8 := Lib.hid hhd'
      have HC8 := Lib.hid hc8
      have HCW8 : Hid (Chg Nil w w8) := HCW7.out.trans hc8 (fun k hk => .inr (Nat.le_of_not_lt fun h => hk (HBW.out k h)))
      have HOV8 := Lib.hid (HOV7.out.chg hc8 (fun k hk hn => hn (HBN.out k (HLT1.out k hk).1 (HLT1.out k hk).2)))
      have HOZ8 := Lib.hid (HOZ7.out.chg hc8 (fun k hk hn => hn (HBN.out k (HLT2.out k hk).1 (HLT2.out k hk).2)))
      have HST8 : Hid (g'.stop = en) := hst'.trans HEE.out
      have HDR8 : Hid (g'.dir = [112]) := hdr'.trans HZK.out.dir
      have HK : Hid (k < ys.length) := hk
      obtain ⟨L2, hL2⟩ : ∃ L2, recsOf (allBts (ys.drop k)) = L2 := ⟨_, rfl⟩
      have HSPL : Hid (∃ L0, L = L0 ++ L2) := ⟨recsOf (allBts (ys.take k)), by rw [← HLE.out, ← hL2]; exact allBts_split ys k⟩
      have HTL2 : Hid (g'.told (ys.drop k) = L2) := by rw [← hL2]; exact hlg'.toldAll hhd'
      have HL2L : Hid (L2.length ≤ L.length) := by obtain ⟨L0, h0⟩ := HSPL.out; unfold Hid; rw [h0, List.length_append]; omega
      have HA2 := Lib.hid (hlg'.all (by rw [HDR8.out]; decide) (by have := HMI.out; omega) 500 (by rw [HTL2.out]; have := HLL.out; have := HL2L.out; omega))
      rw [HTL2.out] at HA2
      clear hlg' hhd' hst' hdr' hc8 hk hL2 HRT HG7
      go_wp2_with fail
      refine HA2.out.mono ?_
      rintro e w9 ⟨v3, rfl, hov3, hvb3, hc9⟩
      have HOV3 := Lib.hid hov3
      have HC9 : Hid (Chg Nil w w9) := HCW8.out.trans hc9 (fun _ h => h.elim)
      have HLG9 := Lib.hid (HLG8.out.nil hc9)
      have HOV9 := Lib.hid (HOV8.out.chg hc9 (fun _ _ h => h))
      have HOZ9 := Lib.hid (HOZ8.out.chg hc9 (fun _ _ h => h))
      clear hov3 hvb3 hc9 HA2 hpal hpbl
      obtain ⟨sa, sc, hse⟩ : ∃ sa sc, v2 = .slice sa bs.length sc := ⟨_, _, HOZ9.out.form⟩
      subst hse
      obtain ⟨a1, c1, hv1, hc1l, hcell1⟩ := HOV9.out.valAt
      subst hv1
      obtain ⟨a3, c3, hv3, hc3l, hcell3⟩ := HOV3.out.valAt
      subst hv3
      clear hcell1 hcell3
      have hkb : k < bs.length := by rw [HBL.out]; exact HK.out
      obtain ⟨a2, c2, he2, hc2l, hcell2⟩ := HOZ9.out.val
      obtain ⟨rfl, _, rfl⟩ := Value.slice.inj he2
      obtain ⟨sg, rfl, hzk⟩ := hcell2 k hkb
      have hbk : bs[k] = g'.start := by
        have h1 : (ys.drop k).head? = some (ys[k]'HK.out) := by rw [List.head?_drop, List.getElem?_eq_getElem HK.out]
        have h2 := HHD8.out _ h1
        have h3 : bs[k]? = some (ys[k]'HK.out).1.base := by rw [← HBS.out, List.getElem?_map, List.getElem?_eq_getElem HK.out]; rfl
        rw [List.getElem?_eq_getElem hkb] at h3
        rw [h2]
        exact Option.some.inj h3
      obtain ⟨bk, hbk2⟩ : ∃ bk, g'.start = bk := ⟨_, rfl⟩
      rw [hbk, hbk2] at hzk
      have hdl : (bs.drop k).length = bs.length - k := List.length_drop
      have HINT : Hid (IntsAt w9 (some ⟨sg, 0 + k, none⟩) (bs.drop k)) := (HOZ9.out.ints).drop k
      have HSG9 : Hid (∀ w', Chg Nil w9 w' → Calls Tryz.prog 17 #[.pointer (some ⟨l, 0, none⟩)] w' fun e w'' => ∃ a c, e = .returned (.slice a (bs.drop k).length c) ∧ IntsAt w'' a (bs.drop k) ∧ Chg Nil w' w'') := fun w' hw => by
        refine ((HLG9.out.nil hw).segs (by have := HMI.out; omega)).mono ?_
        rintro e w'' ⟨v, he, ho, _, hc⟩
        have hm : ((ys.drop k).map fun x => x.1.base) = bs.drop k := by rw [← HBS.out, List.map_drop]
        rw [hm] at ho
        have hf := ho.form
        rw [hf] at ho
        exact ⟨vA v, vC v, by rw [he]; exact congrArg Ending.returned hf, ho.ints, hc⟩
      have HBB : Hid (bs.length ≤ 21) := by have h1 := HBL.out; have h2 := HLG.out.bOk.2.2.1; have h3 := HMI.out; unfold Hid; rw [h1]; omega
      have HSM9 : Hid (∀ w' a c, Chg Nil w9 w' → IntsAt w' a (bs.drop k) → Calls Tryz.prog 19 #[.slice a (bs.drop k).length c, .slice (some ⟨sg, k, none⟩) (bs.length - k) (sc - k)] w' fun e w'' => e = .returned (.bool true) ∧ Chg Nil w' w'') := fun w' a c hw ha => by
        have h1 := sameInts_any a (some ⟨sg, k, none⟩) (bs.drop k) (bs.drop k) c (sc - k) w' (by rw [hdl]; have := HBB.out; omega) (by rw [hdl]; have := HBB.out; omega) ha (IntsAt.chg (by have := HINT.out; rwa [Nat.zero_add] at this) hw (fun _ _ h => h))
        rw [hdl] at h1 ⊢
        refine h1.mono ?_
        rintro e w'' ⟨h2, h3⟩
        exact ⟨by rw [h2]; simp, h3⟩
      have HEN9 : Hid (∀ w', Chg Nil w9 w' → Calls Tryz.prog 15 #[.pointer (some ⟨l, 0, none⟩)] w' fun e w'' => e = .returned (.int .i64 en) ∧ Chg Nil w' w'') := fun w' hw => by
        have h1 := (HLG9.out.nil hw).endAt (by have := HMI.out; omega)
        rw [HST8.out] at h1
        exact h1
      have HST9 : Hid (∀ w', Chg Nil w9 w' → Calls Tryz.prog 16 #[.pointer (some ⟨l, 0, none⟩)] w' fun e w'' => e = .returned (.int .i64 bk) ∧ Chg Nil w' w'') := fun w' hw => by
        have h1 := (HLG9.out.nil hw).startAt
        rw [hbk2] at h1
        exact h1
      obtain ⟨bd, hbd⟩ : ∃ bd, bs.drop k = bd := ⟨_, rfl⟩
      rw [hbd] at HSG9 HSM9
      obtain ⟨nb, hnb⟩ : ∃ nb, bs.length = nb := ⟨_, rfl⟩
      rw [hnb] at HSM9 hkb hc2l
      have HNB := Lib.hid hnb
      rw [hnb]
      have hnb21 : nb ≤ 21 := by rw [← hnb]; exact HBB.out
      have hki : (k : Int) < (nb : Int) := by omega
      have hkle : k ≤ nb := by omega
      have hk0 : (0 : Int) ≤ (k : Int) := by omega
      have hkc : ¬ sc = k := by omega
      have hen : (en == en) = true := beq_self_eq_true _
      have hbb : (bk == bk) = true := beq_self_eq_true _
      clear he2 hcell2 hbk hbk2 hbd hnb hdl
      go_wp2_with fail
      refine wp_region_mono _ (Chg Nil) (by kernel_rfl) (fun _ _ _ h k => h.trans k (fun _ h => h.elim)) [[], [0], [1], [2], [2, 3], [2, 4], [5], [6], [6, 7], [6, 8], [9], [10], [10, 11], [10, 12], [13], [14], [14], [14, 16], [14, 15, 17], [14, 18], [19], [20], [20, 21], [20], [20], [20, 23, 24], [20, 22, 25], [20, 26], [20, 27], [28], [29], [29, 30], [29], [29, 31, 32], [29, 33], [34], [35], [35, 36], [35], [35], [35, 38, 39], [35, 40], [35, 37, 41], [35, 42]] rfl (by kernel_rfl) (Chg.refl _ _).drew ?_
      iterate 22 ((with_reducible apply Walk.eq); case h => (intro w2 hw2 N hN; simp only [depsOf, List.filterMap_nil, List.filterMap_cons, List.getElem?_toArray, List.getElem?_cons_zero, List.getElem?_cons_succ, Option.bind_some, List.nil_append, List.cons_append, Ob]; go_simp; (try go_bits); with_reducible exact hN _ (Chg.refl _ _)))
      refine Walk.sat (fun v w => ∃ a c, v = .slice a bd.length c ∧ IntsAt w a bd) (fun _ _ _ ⟨a, c, h1, h2⟩ k => ⟨a, c, h1, h2.chg k (fun _ _ h => h)⟩) rfl ?_ ?_
      · intro w2 hw2 N hN
        simp only [depsOf, List.filterMap_nil, List.filterMap_cons, List.getElem?_toArray, List.getElem?_cons_zero, List.getElem?_cons_succ, Option.bind_some, List.nil_append, List.cons_append, Ob]
        go_simp
        refine (HSG9.out w2 hw2).mono ?_
        rintro e w4 ⟨a, c, rfl, hu, hc4⟩
        exact ⟨_, rfl, hN _ _ ⟨a, c, rfl, hu⟩ hc4⟩
      iterate 3 ((with_reducible apply Walk.eq); case h => (intro w2 hw2 N hN; simp only [depsOf, List.filterMap_nil, List.filterMap_cons, List.getElem?_toArray, List.getElem?_cons_zero, List.getElem?_cons_succ, Option.bind_some, List.nil_append, List.cons_append, Ob]; go_simp; (try go_bits); with_reducible exact hN _ (Chg.refl _ _)))
      (with_reducible apply Walk.eq); case h =>
        intro w2 hw2 N hN
        simp only [depsOf, List.filterMap_nil, List.filterMap_cons, List.getElem?_toArray, List.getElem?_cons_zero, List.getElem?_cons_succ, Option.bind_some, List.nil_append, List.cons_append, Ob]
        rintro v ⟨a, c, rfl, ha⟩
        have HSM := Lib.hid (HSM9.out w2 a c hw2 ha)
        clear ha
        go_simp
        refine HSM.out.mono ?_
        rintro e w4 ⟨rfl, hc4⟩
        exact ⟨_, rfl, hN _ hc4⟩
      iterate 4 ((with_reducible apply Walk.eq); case h => (intro w2 hw2 N hN; simp only [depsOf, List.filterMap_nil, List.filterMap_cons, List.getElem?_toArray, List.getElem?_cons_zero, List.getElem?_cons_succ, Option.bind_some, List.nil_append, List.cons_append, Ob]; go_simp; (try go_bits); with_reducible exact hN _ (Chg.refl _ _)))
      (with_reducible apply Walk.eq); case h =>
        intro w2 hw2 N hN
        simp only [depsOf, List.filterMap_nil, List.filterMap_cons, List.getElem?_toArray, List.getElem?_cons_zero, List.getElem?_cons_succ, Option.bind_some, List.nil_append, List.cons_append, Ob]
        go_simp
        refine (HEN9.out w2 hw2).mono ?_
        rintro e w4 ⟨rfl, hc4⟩
        exact ⟨_, rfl, hN _ hc4⟩
      iterate 5 ((with_reducible apply Walk.eq); case h => (intro w2 hw2 N hN; simp only [depsOf, List.filterMap_nil, List.filterMap_cons, List.getElem?_toArray, List.getElem?_cons_zero, List.getElem?_cons_succ, Option.bind_some, List.nil_append, List.cons_append, Ob]; go_simp; (try go_bits); with_reducible exact hN _ (Chg.refl _ _)))
      (with_reducible apply Walk.eq); case h =>
        intro w2 hw2 N hN
        simp only [depsOf, List.filterMap_nil, List.filterMap_cons, List.getElem?_toArray, List.getElem?_cons_zero, List.getElem?_cons_succ, Option.bind_some, List.nil_append, List.cons_append, Ob]
        go_simp
        refine (HST9.out w2 hw2).mono ?_
        rintro e w4 ⟨rfl, hc4⟩
        exact ⟨_, rfl, hN _ hc4⟩
      iterate 3 ((with_reducible apply Walk.eq); case h => (intro w2 hw2 N hN; simp only [depsOf, List.filterMap_nil, List.filterMap_cons, List.getElem?_toArray, List.getElem?_cons_zero, List.getElem?_cons_succ, Option.bind_some, List.nil_append, List.cons_append, Ob]; go_simp; (try go_bits); with_reducible exact hN _ (Chg.refl _ _)))
      ((with_reducible apply Walk.eq); case h => (intro w2 hw2 N hN; have hq := hw2.cell hzk (fun h => h); simp only [depsOf, List.filterMap_nil, List.filterMap_cons, List.getElem?_toArray, List.getElem?_cons_zero, List.getElem?_cons_succ, Option.bind_some, List.nil_append, List.cons_append, Ob]; go_simp; with_reducible exact hN _ (Chg.refl _ _)))
      iterate 2 ((with_reducible apply Walk.eq); case h => (intro w2 hw2 N hN; simp only [depsOf, List.filterMap_nil, List.filterMap_cons, List.getElem?_toArray, List.getElem?_cons_zero, List.getElem?_cons_succ, Option.bind_some, List.nil_append, List.cons_append, Ob]; go_simp; (try go_bits); with_reducible exact hN _ (Chg.refl _ _)))
      intro w10 hw10
      simp only [List.nil_append, List.cons_append, Fin]
      intro v22 _
      have HW10 := Lib.hid hw10
      clear hw10 hzk hkc hen hbb hc2l
      go_simp
      have hLi : (L2.length : Int) ≤ (L.length : Int) := by have := HL2L.out; omega
      have HR3 : Hid (RecsAt w10 a3 L2) := RecsAt.chg HW10.out HOV3.out.at (fun _ _ h => h)
      have HR1 : Hid (RecsAt w10 a1 L) := RecsAt.chg HW10.out HOV9.out.at (fun _ _ h => h)
      have HC10 : Hid (Chg Nil w w10) := HC9.out.trans HW10.out (fun _ h => h.elim)
      obtain ⟨dl, hdl⟩ : ∃ dl, L.length - L2.length = dl := ⟨_, rfl⟩
      obtain ⟨n1, hn1⟩ : ∃ n1, L.length = n1 := ⟨_, rfl⟩
      obtain ⟨n2, hn2⟩ : ∃ n2, L2.length = n2 := ⟨_, rfl⟩
      have hn1l : n1 ≤ 1000 := by rw [← hn1]; exact HLL.out
      have hnn : n2 ≤ n1 := by have := HL2L.out; omega
      have HSUB : Hid (n1 - (n1 - n2) = n2) := by have := HL2L.out; unfold Hid; omega
      have HN1 := Lib.hid hn1
      have HN2 := Lib.hid hn2
      have HDL := Lib.hid hdl
      rw [hn1, hn2] at hLi
      have HOV10 := Lib.hid HOV9.out
      rw [hn1] at hc1l
      rw [hn1, hn2]
      have HSA : Hid (∀ y c, RecsAt w10 y L2 → Calls Tryz.prog 14 #[.slice a3 n2 c3, .slice y (n1 - (n1 - n2)) c] w10 fun e w' => e = .returned (.bool true) ∧ Chg Nil w10 w') := fun y c hy => by
        have h1 := same_any a3 y L2 c3 c w10 (by have := HL2L.out; have := HLL.out; unfold maxLen; omega) HR3.out hy
        rw [HN2.out] at h1
        rw [HSUB.out]
        exact h1
      clear hn1 hn2 hdl
      by_cases hcd : c1 = n1 - n2
      · have HL20 : Hid (L2 = []) := List.eq_nil_of_length_eq_zero (by have h2 := HN2.out; omega)
        have HS1 := Lib.hid (fun c => HSA.out a1 c (by rw [HL20.out]; exact fun i hi => absurd hi (Nat.not_lt_zero _)))
        go_wp2_with fail
        refine (HS1.out _).mono ?_
        rintro e w11 ⟨rfl, hc11⟩
        have HC11 := Lib.hid (HC10.out.trans hc11 (fun _ h => h.elim))
        clear hc11
        go_wp2_with fail
        go_ret
        exact ⟨rfl, HC11.out⟩
      · rcases HOV10.out.2 with ⟨hv, hn0⟩ | ⟨g1, cap1, cur1, hv, _⟩
        · exfalso
          obtain ⟨_, _, h3⟩ := Value.slice.inj hv
          have h1 := HN1.out
          omega
        · obtain ⟨ha1, _, _⟩ := Value.slice.inj hv
          subst ha1
          clear hv
          have HRD : Hid (RecsAt w10 (some ⟨g1, (n1 - n2) * 6, none⟩) L2) := by
            obtain ⟨L0, h0⟩ := HSPL.out
            have h9 : L0.length = n1 - n2 := by have h1 := congrArg List.length h0; rw [List.length_append] at h1; have := HN1.out; have := HN2.out; omega
            intro i hi
            obtain ⟨b, off, he, hc⟩ := HR1.out (L0.length + i) (by rw [h0, List.length_append]; omega)
            obtain ⟨rfl, rfl, _⟩ := Addr.mk.inj (Option.some.inj he)
            refine ⟨g1, (n1 - n2) * 6, rfl, fun j u hj => ?_⟩
            have h4 : L[L0.length + i]'(by rw [h0, List.length_append]; omega) = L2[i] := by simp only [h0]; rw [List.getElem_append_right (by omega)]; simp
            rw [h4] at hc
            have h5 := hc j u hj
            rw [h9] at h5
            rwa [show (n1 - n2) * 6 + i * 6 + j = 0 + (n1 - n2 + i) * 6 + j by omega]
          have HS1 := Lib.hid (fun c => HSA.out (some ⟨g1, (n1 - n2) * 6, none⟩) c HRD.out)
          go_wp2_with fail
          refine (HS1.out _).mono ?_
          rintro e w11 ⟨rfl, hc11⟩
          have HC11 := Lib.hid (HC10.out.trans hc11 (fun _ h => h.elim))
          clear hc11
          go_wp2_with fail
          go_ret
          exact ⟨rfl, HC11.out⟩
end Go.Proofs.YtdjmifaidgbbaaaGreatDoor
