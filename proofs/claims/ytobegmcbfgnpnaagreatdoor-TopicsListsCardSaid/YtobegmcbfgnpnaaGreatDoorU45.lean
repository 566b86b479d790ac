/-
  The law on lists of topics. (Of the topics' seat.)
-/
import Derived.Test.YtobegmcbfgnpnaaGreatDoorU44
set_option linter.unusedVariables false
set_option linter.unusedSimpArgs false
set_option maxHeartbeats 0
set_option maxRecDepth 200000
namespace Go.Proofs.YtobegmcbfgnpnaaGreatDoor
open Go.RowKit Go.Lib Go.Shelf
theorem tabA_chg {w w':World}(h:TabA w)(hc:Chg Nil w w'):TabA w':=var_chg hc h
theorem StT.nil {w w':World}{st p:Nat}{c1 c2 c3 va vd:Value}{es:List Nat}{ts:List Tp}(h:StT w st p c1 c2 c3 va vd es ts)(hc:Chg Nil w w'):StT w' st p c1 c2 c3 va vd es ts:=
 ⟨h.box.chg hc (fun h=>h),ownsRow_chg h.row hc (fun _ _ h=>h),h.len,fun i hi hi'=>(h.ent i hi hi').imp fun lv hb=>hb.chg hc (fun h=>h)⟩
structure Gd (ts:List Tp) (i:Nat):Prop where
 pw:(ts.take i).Pairwise fun a b=>a.name≠b.name
 pt:∀ t∈ts.take i,t.starts.length≤20
 few:i≤9
theorem Gd.next {ts:List Tp}{i:Nat}(h:Gd ts i)(hi:i<ts.length)(hn:∀ t∈ts.take i,t.name≠ts[i].name)(hp:ts[i].starts.length≤20)(h8:i≤8):Gd ts (i+1):=by
 refine⟨?_,fun t ht=>?_,by omega⟩
 ·rw[List.take_succ_eq_append_getElem hi,List.pairwise_append]
  exact⟨h.pw,List.pairwise_singleton _ _,fun a ha b hb=>by rw[List.mem_singleton.1 hb];exact hn a ha⟩
 ·rw[List.take_succ_eq_append_getElem hi] at ht
  rcases List.mem_append.1 ht with ht | ht
  ·exact h.pt t ht
  ·rw[List.mem_singleton.1 ht];exact hp
theorem nameB_ne {a b:List UInt8}(h:(⟨a.toArray⟩:ByteArray)≠⟨b.toArray⟩):a≠b:=fun e=>h (by rw[e])
theorem topicsLists_in (text:ByteArray) (w:World) (hH:Handle w) (hT:TabE w) (hM:MaxL w) (hA:TabA w) (hsz:text.size≤9223372036854775807) :
  Calls Tryz.prog 3 #[.string text] w fun e w'=>e = .returned (.bool true)∧Chg Nil w w':=by
 by_cases hs:(2000:Int)<(text.size:Int)
 ·go_enter Tryz.func3,Tryz.ntmps3
  go_wp2_with fail;go_ret;exact⟨rfl,Chg.refl _ _⟩
 have hs2:text.size≤2000:=by omega
 have HNEW:=Lib.hid (new_any 1048576 (by omega) w)
 have HH:=Lib.hid hH
 have HT:=Lib.hid hT
 have HM:=Lib.hid hM
 have HA:=Lib.hid hA
 have HS:=Lib.hid hs2
 clear hH hT hM hA hs2 hsz;go_enter Tryz.func3,Tryz.ntmps3
 go_wp2_with fail;refine HNEW.out.mono ?_
 rintro e w1 ⟨p,mb,rfl,hp,hmb,hdm,hc1⟩
 have HDS:=Lib.hid (DsS.start (by omega) hp hmb hdm hc1)
 have HC1:=Lib.hid hc1
 have HMK:=Lib.hid (make_any HDS.out.a ⟨topicsN.toArray⟩ (by decide))
 clear hp hmb hdm hc1 HNEW;go_wp2_with fail;refine HMK.out.mono ?_
 rintro e w2 ⟨rfl,hd2,hc2⟩
 have hmk:(Dk.fresh 1048576).make (ByteArray.mk topicsN.toArray).data.toList=(0,listD []):=list_made
 rw[hmk] at hd2 ⊢
 have HDS2:=Lib.hid (HDS.out.disk hd2 hc2)
 have HC2:Hid (Chg Nil w w2):=HC1.out.trans hc2 (fun b hb=>.inr hb.1)
 clear hd2 hc2 hmk;rw[show errD (0,listD []).1=Value.nilIface from rfl]
 have hcv:=Go.Lib.run_convert_string_bytes (P:=Tryz.prog) w2 9 29 5 text Tryz.underlying9 Tryz.underlying29 Tryz.underlying5
 obtain⟨cap,hcap⟩:∃ cap,grownCap w2 text.size 0 5=cap:=⟨_,rfl⟩
 obtain⟨w3,hw3⟩:∃ w3,Lib.bytesWorld w2 5 text=w3:=⟨_,rfl⟩
 rw[hcap,hw3] at hcv;go_wp2_with fail;have hc3:Chg Nil w2 w3:=chg_bytes (.inr ⟨text,hw3.symm⟩)
 have hb3:BytesAt w3 (some ⟨w2.heap.size,0,none⟩) text.data.toList:=fun j hj=>⟨w2.heap.size,0,rfl,by
  rw[←hw3,Nat.zero_add,Lib.bytesWorld_cell w2 5 text j (by rw[size_eq];exact hj)]
  unfold bval;rw[List.getD_eq_getElem?_getD,List.getElem?_eq_getElem hj]
  rfl⟩
 have HDS3:=Lib.hid (HDS2.out.nil hc3)
 have HC3:Hid (Chg Nil w w3):=HC2.out.trans hc3 (fun b hb=>hb.elim)
 have HADD:=Lib.hid (add_any HDS3.out.a ⟨topicsN.toArray⟩ (by decide) (some ⟨w2.heap.size,0,none⟩) text.data.toList cap (by have:=HS.out;rw[size_eq] at this;omega) hb3 (fun _ x hx hk=>by
  obtain rfl:=Option.some.inj hx
  exact Nat.lt_irrefl _ (HDS2.out.sl _ hk).2))
 have hadd:(listD []).add (ByteArray.mk topicsN.toArray).data.toList text.data.toList=(0,listD text.data.toList):=list_added (by have:=HS.out;rw[size_eq] at this;omega)
 rw[hadd] at HADD;rw[←size_eq] at HADD;clear hc3 hb3 hcv hcap hw3 HMK hadd;go_wp2_with fail;refine HADD.out.mono ?_
 rintro e w4 ⟨rfl,hd4,hc4⟩
 have HDS4:=Lib.hid (HDS3.out.disk hd4 hc4)
 have HC4:Hid (Chg Nil w w4):=HC3.out.trans hc4 (fun b hb=>.inr (Nat.le_of_not_lt (HDS3.out.sl b hb).1))
 clear hd4 hc4 HADD;rw[show errD (0,listD text.data.toList).1=Value.nilIface from rfl]
 have HLS:=Lib.hid (rlist_any (w:=w4) (fun W hW=>⟨HT.out.chg (HC4.out.trans hW fun b hb=>hb.elim),HM.out.chg (HC4.out.trans hW fun b hb=>hb.elim) (fun h=>h)⟩) text HS.out)
 go_wp2_with fail;refine HLS.out.mono ?_
 rintro e w5 ⟨hc5,hls⟩
 have HC5:Hid (Chg Nil w w5):=HC4.out.trans hc5 (fun b hb=>hb.elim)
 have HDS5:=Lib.hid (HDS4.out.grow hc5)
 have HOP:=Lib.hid (topen_any HDS5.out (HT.out.chg HC5.out) (fun n hn g hg=>.inl (HT.out.lt n hn g hg)) (HM.out.chg HC5.out (fun h=>h)) (.inl HM.out.lt) (list_empty text.data.toList) (list_find text.data.toList) (by have:=HS.out;rw[size_eq] at this;omega) (list_list _) 500 0 0 (by omega))
 clear hc5 HLS;rcases hls with ⟨hno,rfl⟩ | ⟨ts,v,hts,rfl,how,hvb⟩
 ·have HNO:=Lib.hid hno
  clear hno;go_wp2_with fail;refine HOP.out.mono ?_
  rintro e w6 ⟨hc6,ho⟩
  have HC6:Hid (Chg Nil w w6):=HC5.out.trans hc6 (fun b hb=>.inr (Nat.le_of_not_lt fun hlt=>hb (.inl hlt)))
  unfold TOpenAt at ho;rw[HNO.out] at ho;subst ho;have HB:=Lib.hid (lawBare_any 15 w6 (HH.out.chg HC6.out fun h=>h))
  change Hid (Calls _ _ #[errD 15,.int .i64 15] _ _) at HB
  clear hc6 HOP HDS5;go_wp2_with fail;refine HB.out.mono ?_
  rintro e w7 ⟨rfl,hc7⟩
  have HC7:=Lib.hid (HC6.out.trans hc7 (fun b hb=>hb.elim))
  clear hc7 HB;go_wp2_with fail;go_ret;exact⟨rfl,HC7.out⟩
 ·have HTS:=Lib.hid hts
  have HOW:=Lib.hid how
  have HVB:=Lib.hid hvb
  obtain⟨va,vc,rfl,_,_⟩:=how.val
  clear hts how hvb;go_wp2_with fail;refine HOP.out.mono ?_
  rintro e w6 ⟨hc6,ho⟩
  have HC6:Hid (Chg Nil w w6):=HC5.out.trans hc6 (fun b hb=>.inr (Nat.le_of_not_lt fun hlt=>hb (.inl hlt)))
  have HOW6:Hid (OwnTp w6 (.slice va ts.length vc) ts):=ownsRow_chg HOW.out hc6 (fun b hb ho=>ho (.inr ⟨HVB.out b hb,ownsRow_lt HOW.out b hb⟩))
  unfold TOpenAt at ho;rw[HTS.out] at ho;obtain⟨sv,ev,rfl,HO⟩:∃ sv ev,e = .returned (.tuple #[sv,ev])∧Hid ((topsGo 500 ts (listD text.data.toList)).1=0→∃ st c1 c2 c3 va es,sv = .pointer (some ⟨st,0,none⟩)∧ev = .nilIface∧StT w6 st p c1 c2 c3 va (.bool false) es ts):=by
   rcases ho with ⟨hz,st,c1,c2,c3,va,es,rfl,hst⟩ | ⟨hz,rfl⟩
   ·exact⟨_,_,rfl,fun _=>⟨st,c1,c2,c3,va,es,rfl,rfl,hst⟩⟩
   ·exact⟨_,_,rfl,fun h=>absurd h hz⟩
  clear hc6 ho HOP HDS5 HOW HVB;obtain⟨n,hn⟩:∃ n,ts.length=n:=⟨_,rfl⟩
  have HN:=Lib.hid hn
  have hn2:n≤2001:=by
   have h1:=listT_count HTS.out
   have h2:=HS.out
   rw[size_eq] at h2;omega
  rw[hn] at HOW6 ⊢
  clear hn;go_wp2_with fail;have HVAL:Hid (∀ j (hj:j<n),∃ g,va=some ⟨g,0,none⟩∧w6.cell? ⟨g,j*3,none⟩=some (.string ⟨(ts[j]'(by rw[HN.out];exact hj)).name.toArray⟩)∧w6.cell? ⟨g,j*3+1,none⟩=some (.int .i64 ((ts[j]'(by rw[HN.out];exact hj)).starts.length:Nat))):=fun j hj=>by
   obtain⟨a,cap,he,_,h⟩:=HOW6.out.val
   obtain⟨g,h1,h2,h3,_⟩:=h j (by rw[HN.out];exact hj)
   exact⟨g,by rw[(Value.slice.inj he).1];exact h1,h2,h3⟩
  go_loopw [9] (fun iv wr=>∃ (wq:World) (i:Nat),wq=wr∧i≤n∧iv = .int .i64 i∧Hid (Gd ts i)∧Hid (Chg Nil w6 wr)) (fun iv _=>n-(RowKit.intOf iv).toNat)
  case atStart=>exact⟨_,0,rfl,Nat.zero_le _,rfl,⟨by simp,fun t ht=>by simp at ht,by omega⟩,Chg.refl _ _⟩
  case round=>
   obtain⟨wr,i,rfl,hi,rfl,HG,HC⟩:=hrel
   by_cases hil:i<n
   ·have hii:(i:Int)<(n:Int):=by omega
    have hit:i<ts.length:=by rw[HN.out];exact hil
    obtain⟨g,rfl,h1,h2⟩:=HVAL.out i hil
    have y2:=HC.out.cell h2 (fun h=>h)
    obtain⟨s1,hs1⟩:∃ s1:ByteArray,(⟨ts[i].name.toArray⟩:ByteArray)=s1:=⟨_,rfl⟩
    obtain⟨pn,hpn⟩:∃ pn,ts[i].starts.length=pn:=⟨_,rfl⟩
    rw[hs1] at h1;rw[hpn] at y2;have HS1:Hid (∀ h:i<ts.length,(⟨ts[i].name.toArray⟩:ByteArray)=s1):=fun _=>hs1
    have HPN:Hid (∀ h:i<ts.length,ts[i].starts.length=pn):=fun _=>hpn
    have HY1:=Lib.hid h1
    have HIT:=Lib.hid hit
    clear h1 h2 hs1 hpn hit;obtain⟨wa,hwa⟩:∃ wa,wa=wr:=⟨_,rfl⟩
    have HC0:=HC
    rw[←hwa] at HC0;have HY2:=Lib.hid y2
    rw[←hwa] at HY2;clear y2;go_wp2_with fail;go_loopw [10] (fun kv wr=>∃ (wq:World) (k:Nat),wq=wr∧k≤i∧kv = .int .i64 k∧Hid (∀ t∈ts.take k,(⟨t.name.toArray⟩:ByteArray)≠s1)∧Hid (Chg Nil wa wr)) (fun kv _=>i-(RowKit.intOf kv).toNat)
    case atStart=>exact⟨_,0,rfl,Nat.zero_le _,rfl,fun t ht=>(by simp at ht),(by rw[hwa];exact Chg.refl _ _)⟩
    case round=>
     obtain⟨wr,k,rfl,hk,rfl,HK,HCK⟩:=hrel
     have HCW:Hid (Chg Nil w6 wr):=HC0.out.trans HCK.out (fun b hb=>hb.elim)
     by_cases hki:k<i
     ·have hkk:(k:Int)<(i:Int):=by omega
      have hkn:(k:Int)<(n:Int):=by omega
      have hkt:k<ts.length:=by have:=HIT.out;omega
      obtain⟨g',hg',h1,_⟩:=HVAL.out k (by omega)
      obtain rfl:g=g':=by
       have:=Option.some.inj hg'
       exact (Addr.mk.inj this).1
      have y1:=HCW.out.cell HY1.out (fun h=>h)
      have y4:=HCW.out.cell h1 (fun h=>h)
      obtain⟨s2,hs2⟩:∃ s2:ByteArray,(⟨ts[k].name.toArray⟩:ByteArray)=s2:=⟨_,rfl⟩
      rw[hs2] at y4;have HS2:Hid (∀ h:k<ts.length,(⟨ts[k].name.toArray⟩:ByteArray)=s2):=fun _=>hs2
      have HKT:=Lib.hid hkt
      clear hs2 h1 hg' hkt;by_cases he:s1=s2
      ·have hne:=bytes_eqT he
       go_upto_region 16 with fail;go_quiet (fail)
       go_wp2_with fail;go_ret;exact⟨rfl,HC6.out.trans (HCW.out.drewN _) (fun b hb=>hb.elim)⟩
      ·have hne:=bytes_eqF he
       have HNX:Hid (∀ t∈ts.take (k+1),(⟨t.name.toArray⟩:ByteArray)≠s1):=fun t ht=>by
        rw[List.take_succ_eq_append_getElem HKT.out] at ht
        rcases List.mem_append.1 ht with ht | ht
        ·exact HK.out t ht
        ·rw[List.mem_singleton.1 ht,HS2.out HKT.out];exact fun e=>he e.symm
       go_upto_region 16 with fail;go_quiet (fail)
       go_wp2_with fail;go_roundw
       case rel=>exact⟨_,k+1,rfl,hki,by go_num,HNX.out,HCK.out.drewN _⟩
       case measure=>exact meas_two hki
     ·have hkk:¬(k:Int)<(i:Int):=by omega
      obtain rfl:k=i:=by omega
      have y2:=HCK.out.cell HY2.out (fun h=>h)
      have hii:(k:Int)<(n:Int):=by omega
      by_cases hp:(20:Int)<(pn:Int)
      ·go_wp2_with fail;go_ret;exact⟨rfl,HC6.out.trans HCW.out (fun b hb=>hb.elim)⟩
      ·by_cases h8:(8:Int)<(k:Int)
       ·go_wp2_with fail;go_ret;exact⟨rfl,HC6.out.trans HCW.out (fun b hb=>hb.elim)⟩
       ·have HGN:Hid (Gd ts (k+1)):=HG.out.next HIT.out (fun t ht=>nameB_ne (by rw[HS1.out HIT.out];exact HK.out t ht)) (by rw[HPN.out HIT.out];omega) (by omega)
        go_wp2_with fail;go_roundw
        case rel=>exact⟨_,k+1,rfl,hil,by go_num,HGN.out,HCW.out⟩
        case measure=>exact meas_two hil
   ·have hii:¬(i:Int)<(n:Int):=by omega
    obtain rfl:i=n:=by omega
    have HC7:=Lib.hid (HC6.out.trans HC.out (fun b hb=>hb.elim))
    have HBG:=Lib.hid (big_any (w:=wr) (fun W hW=>HT.out.chg (HC7.out.trans hW (fun b hb=>hb.elim))) (tabA_chg HA.out HC7.out) text HS.out (list_ascii HTS.out))
    go_wp2_with fail;refine HBG.out.mono ?_
    rintro e w8 ⟨b,rfl,hc8,hsm⟩
    have HC8:Hid (Chg Nil w w8):=HC7.out.trans hc8 (fun b hb=>hb.elim)
    cases b with
    | true=>
     go_wp2_with fail;go_ret;exact⟨rfl,HC8.out⟩
    | false=>
     have hall:ts.take i=ts:=List.take_of_length_le (Nat.le_of_eq HN.out)
     have hgd:=HG.out
     have hz:(topsGo 500 ts (listD text.data.toList)).1=0:=by
      refine GoodD.tops 500 ts [] _ (list_good _) (fun p hp=>by simp at hp) (fun t ht=>⟨?_,?_,?_⟩) (fun t ht p hp=>by simp at hp) ?_ ?_
      ·obtain⟨x,hx,hlx⟩:=(listT_each HTS.out).2 t ht
       obtain⟨n1,c1,r1,_,hok,_,_,hnm⟩:=lineT_parts hlx
       rw[hnm];exact hok
      ·exact hgd.pt t (by rw[hall];exact ht)
      ·exact starts_small HTS.out (hsm rfl) t ht
      ·have:=hgd.pw
       rw[hall] at this;exact this
      ·have h1:=hgd.few
       have h2:=HN.out
       simp only[List.length_nil]
       omega
     obtain⟨st,c1,c2,c3,sa,es,rfl,rfl,hst⟩:=HO.out hz
     have hc68:Chg Nil w6 w8:=HC.out.trans hc8 (fun b hb=>hb.elim)
     have HTP:=Lib.hid (topics_any (hst.nil hc68) (by rw[hst.len,HN.out];omega))
     have HOW8:Hid (OwnTp w8 (.slice va i vc) ts):=ownsRow_chg HOW6.out hc68 (fun _ _ h=>h)
     have HL:Hid (ts.length≤10000):=by have:=HN.out;show _≤_;omega
     clear hsm hall hgd hz hst hc68 hc8 HBG;go_upto_region 22 with fail;go_wp2_with fail;refine HTP.out.mono ?_
     rintro e w9 ⟨tv,rfl,htv,_,hc9⟩
     have HC9:Hid (Chg Nil w w9):=HC8.out.trans hc9 (fun b hb=>hb.elim)
     have HSM:=Lib.hid (sameTopics_any htv (ownsRow_chg HOW8.out hc9 (fun _ _ h=>h)) HL.out)
     obtain⟨ta,tc,rfl,_,_⟩:=htv.val
     clear hc9 htv HTP;go_wp2_with fail;refine HSM.out.mono ?_
     rintro e w10 ⟨rfl,hc10⟩
     have HC10:Hid (Chg Nil w w10):=HC9.out.trans hc10 (fun b hb=>hb.elim)
     clear hc10 HSM;go_wp2_with fail;go_ret;exact⟨rfl,HC10.out⟩
end Go.Proofs.YtobegmcbfgnpnaaGreatDoor
