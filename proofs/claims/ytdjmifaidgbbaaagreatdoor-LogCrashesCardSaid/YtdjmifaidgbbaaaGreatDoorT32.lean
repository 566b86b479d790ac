/-
  The walk of Compact. (Of the logs' seat.)
-/
import Derived.Test.YtdjmifaidgbbaaaGreatDoorT31
set_option linter.unusedVariables false
set_option linter.unusedSimpArgs false
set_option maxHeartbeats 0
set_option maxRecDepth 200000
namespace Go.Proofs.YtdjmifaidgbbaaaGreatDoor
open Go.RowKit Go.Lib Go.Maps
theorem lcompact_any {B:Nat→Prop} {w:World} {p l:Nat} {S:Nat→Prop} {sv:Value} {ss:List (Nat×Value)} {d:Dk} {g:Lg} {xs:List SgB} (h:LgS B w p l S sv ss d g) (hk:LgOk d g xs) (hn:LgN B w ss g) (hdir:g.dir.length≤100) (hx:xs.length≤9999) (now age:Int) :
  Calls Tryz.prog 20 #[.pointer (some ⟨l,0,none⟩),.int .i64 now,.int .i64 age] w fun e w'=>e = .returned (.tuple #[.int .i64 ((compLg now age xs d g).2.1:Nat),errD (compLg now age xs d g).1])∧(∃ S' sv' ss',LgS B w' p l S' sv' ss' (compLg now age xs d g).2.2.1 (compLg now age xs d g).2.2.2∧ss'.length=ss.length)∧Chg (Off B) w w':=by
 have hn1:=Box.new w [.int .i64 now] 3
 have hal1:=(Chg.refl Nil w).alloc (.cells #[.int .i64 now] 3)
 have hbn1:Box (w.alloc (.cells #[.int .i64 now] 3)) w.heap.size [.int .i64 now] 3:=hn1
 have hz1:w.heap.size<(w.alloc (.cells #[.int .i64 now] 3)).heap.size:=(Array.getElem?_eq_some_iff.1 hbn1).1
 have hn2:=Box.new (w.alloc (.cells #[.int .i64 now] 3)) [.int .i64 age] 3
 have hal2:=(Chg.refl Nil (w.alloc (.cells #[.int .i64 now] 3))).alloc (.cells #[.int .i64 age] 3)
 have hba2:Box ((w.alloc (.cells #[.int .i64 now] 3)).alloc (.cells #[.int .i64 age] 3)) (w.alloc (.cells #[.int .i64 now] 3)).heap.size [.int .i64 age] 3:=hn2
 have HBA2:=Lib.hid hba2
 have HBN2:=Lib.hid (hbn1.chg hal2 (fun h=>h))
 have HAL:=Lib.hid (hal1.trans hal2 (fun _ h=>h.elim))
 have HZ1:=Lib.hid hz1
 have HH:=Lib.hid h
 have HK:=Lib.hid hk
 have HN:=Lib.hid hn
 clear h hk hn hn1 hal1 hbn1 hn2 hal2 hba2 hz1;obtain⟨R,hR⟩:∃ R,compLg now age xs d g=R:=⟨_,rfl⟩
 have HR:=Lib.hid hR
 rw[hR];obtain⟨F,hF⟩:∃ F,flushLg d g=F:=⟨_,rfl⟩
 have HF:=Lib.hid hF
 clear hR hF;have hsz:(w.alloc (.cells #[.int .i64 now] 3)).heap.size=w.heap.size+1:=by
  show (w.heap.push _).size=_
  exact Array.size_push ..
 go_enter Tryz.func20,Tryz.ntmps20
 go_upto_region 1 with fail;obtain⟨bn,hbn⟩:∃ bn,w.heap.size=bn:=⟨_,rfl⟩
 generalize hw1:(w.alloc (.cells #[.int .i64 now] 3)).alloc (.cells #[.int .i64 age] 3)=w1 at *;rw[hsz] at HBA2 HZ1
 obtain⟨ba,hba⟩:∃ ba,w.heap.size+1=ba:=⟨_,rfl⟩
 rw[hba] at HZ1 HBA2
 rw[hbn] at HZ1 HBN2
 rw[hba,hbn];obtain⟨B1,hB1⟩:∃ B1,(fun k=>B k∨(w.heap.size≤k∧k<w1.heap.size))=B1:=⟨_,rfl⟩
 have HB1:Hid (∀ k,B k→B1 k):=fun k hk=>by rw[←hB1];exact .inl hk
 have HB1n:Hid (B1 bn∧B1 ba):=by
  have h1:=HZ1.out
  have h2:=(Array.getElem?_eq_some_iff.1 HBA2.out).1
  rw[←hB1];exact⟨.inr (by omega),.inr (by omega)⟩
 have hl1:=HH.out.growC (HAL.out.weak (S':=B) (fun _ h=>h.elim))
 rw[hB1] at hl1;have hN1:LgN B1 w1 ss g:=⟨HN.out.ne,HN.out.few,HN.out.pls,HN.out.size,HN.out.name,HN.out.hand.chg HAL.out (fun h=>h),HB1.out _ HN.out.hb⟩
 have HFL:=Lib.hid (lflush_any hl1 hN1)
 have HOFF:Hid (∀ {wa wb:World},Chg (Off B1) wa wb→Chg (Off B) wa wb):=fun hc=>hc.weak (fun k hk=>.inl (fun hb=>hk (HB1.out k hb)))
 have HBNA:Hid (bn<ba):=HZ1.out
 have HB1l:Hid (bn<w1.heap.size∧ba<w1.heap.size):=⟨(Array.getElem?_eq_some_iff.1 HBN2.out).1,(Array.getElem?_eq_some_iff.1 HBA2.out).1⟩
 have HHAND:Hid (Handle w1):=HN.out.hand.chg HAL.out (fun h=>h)
 have HEB:Hid (B 0):=HN.out.hb
 clear hw1 hsz hba hbn hB1 hl1 hN1 HZ1;rw[HF.out] at HFL;go_wp2_with fail;refine HFL.out.mono ?_
 rintro e w2 ⟨rfl,⟨S2,hs2⟩,hc2⟩
 have HS2:=Lib.hid hs2
 have HC2:=Lib.hid hc2
 clear hs2 hc2 HFL;by_cases hk:F.1=0
 ·have hev:errD F.1 = .nilIface:=by rw[hk];rfl
  rw[hev];have HK0:=Lib.hid hk
  clear hev hk;have hmm:=@run_makeMap Tryz.prog
  have hm3:=(NumsAt.made w2).chg ((Chg.refl Nil _).alloc (.cells #[.map (some w2.heap.size)] 49)) (fun h=>h)
  have hb3:Box ((w2.alloc (.map #[] 0)).alloc (.cells #[.map (some w2.heap.size)] 49)) (w2.alloc (.map #[] 0)).heap.size [.map (some w2.heap.size)] 49:=Box.new _ _ _
  have hc3:Chg Nil w2 ((w2.alloc (.map #[] 0)).alloc (.cells #[.map (some w2.heap.size)] 49)):=((Chg.refl Nil w2).alloc _).alloc _
  have hsz2:(w2.alloc (.map #[] 0)).heap.size=w2.heap.size+1:=by
   show (w2.heap.push _).size=_
   exact Array.size_push ..
  rw[hsz2] at hb3;go_upto_region 5 with fail;generalize hw3:(w2.alloc (.map #[] 0)).alloc (.cells #[.map (some w2.heap.size)] 49)=w3 at *
  obtain⟨B2,hB2⟩:∃ B2,(fun k=>B1 k∨(w2.heap.size≤k∧k<w3.heap.size))=B2:=⟨_,rfl⟩
  obtain⟨bm,hbm⟩:∃ bm,w2.heap.size+1=bm:=⟨_,rfl⟩
  obtain⟨mb,hmb⟩:∃ mb,w2.heap.size=mb:=⟨_,rfl⟩
  have hbml:=(Array.getElem?_eq_some_iff.1 hb3).1
  rw[hbm] at hb3 hbml
  have HB2:Hid (∀ k,B1 k→B2 k):=fun k hk=>by rw[←hB2];exact .inl hk
  have HB2m:Hid (B2 bm∧B2 mb):=by rw[←hB2];exact⟨.inr (by omega),.inr (by omega)⟩
  have HMB1:Hid (w1.heap.size≤mb):=by rw[←hmb];exact HC2.out.size
  have HBMM:Hid (mb<bm):=by unfold Hid;omega
  have HS3:Hid (LgS B2 w3 p l S2 sv ss F.2.1 F.2.2):=by
   have h1:=HS2.out.growC (hc3.weak (S':=B1) (fun _ h=>h.elim))
   rw[hB2] at h1;exact h1
  have HOF2:Hid (∀ {wa wb:World},Chg (Off B2) wa wb→Chg (Off B1) wa wb):=fun hc=>hc.weak (fun k hk=>.inl (fun hb=>hk (HB2.out k hb)))
  rw[hmb] at hm3 hb3
  rw[hbm,hmb];have HM3:Hid (NumsAt w3 mb (lastOf [])):=hm3
  have HB3:=Lib.hid hb3
  have HC3:Hid (Chg (Off B1) w1 w3):=HC2.out.trans hc3 (fun _ h=>h.elim)
  have HBN3:=Lib.hid ((HBN2.out.chg HC2.out (fun hn=>hn HB1n.out.1)).chg hc3 (fun h=>h))
  have HBA3:=Lib.hid ((HBA2.out.chg HC2.out (fun hn=>hn HB1n.out.2)).chg hc3 (fun h=>h))
  have HK2:Hid (LgOk F.2.1 F.2.2 xs∧F.2.2.dir=g.dir):=by
   have h1:=flush_done HK.out (by rw[HF.out];exact HK0.out) (by rw[HF.out];exact HS2.out.a.ok)
   rw[HF.out] at h1;rw[h1.2];exact⟨h1.1,rfl⟩
  have HR2:Hid (compGo (keepR (lastOf (recsOf (allBts xs))) (wrap64 (now-age))) ((xs.take (xs.length-1)).map (·.2)) 0 0 F.2.1 F.2.2=R):=by
   rw[←HR.out];unfold compLg;rw[HF.out,if_pos HK0.out]
   rfl
  have HNE:Hid (ss.length=xs.length∧0<xs.length):=⟨by rw[HS3.out.len,HK2.out.1.len],HK2.out.1.pos⟩
  have HFEW:Hid ((recsOf (allBts xs)).length≤50000000000):=HK2.out.1.recsFew hx
  clear hmm hm3 hb3 hc3 hsz2 hw3 hB2 hbm hmb hbml HR HK0 HS2 HC2 HBN2 HBA2 HK HN;obtain⟨d2,hd2⟩:∃ d2,F.2.1=d2:=⟨_,rfl⟩
  obtain⟨g2,hg2⟩:∃ g2,F.2.2=g2:=⟨_,rfl⟩
  rw[hd2,hg2] at HS3 HK2 HR2
  clear hd2 hg2 HF;have HDIR:Hid (g2.dir.length≤100):=by rw[HK2.out.2];exact hdir
  obtain⟨a,cap,hv,hcap,hcell⟩:=HS3.out.o.val
  rw[List.length_map] at hv hcap
  have HCELL:Hid (∀ i (hi:i<ss.length),∃ b,a=some ⟨b,0,none⟩∧w3.cell? ⟨b,i,none⟩=some (.pointer (some ⟨ss[i].1,0,none⟩))):=fun i hi=>by
   obtain⟨b,hb,hz⟩:=hcell i (by rw[List.length_map];exact hi)
   rw[List.getElem_map] at hz;exact⟨b,hb,hz⟩
  have c3:w3.cell? ⟨l,3,none⟩=some sv:=HS3.out.c.cell (j:=3) rfl
  subst hv;obtain⟨n,hnn⟩:∃ n,ss.length=n:=⟨_,rfl⟩
  have HNN:=Lib.hid hnn
  rw[hnn] at c3;have hn9:n≤9999:=by rw[←hnn,HNE.out.1];exact hx
  have HROW:Hid (∀ b,a=some ⟨b,0,none⟩→b≠mb):=fun b hb e=>(HS3.out.lb b (.inr (by rw[hb];rfl))).1 (e ▸ HB2m.out.2)
  have HCAP:Hid (n≤cap):=by rw[←hnn];exact hcap
  clear hnn hcell hcap;go_wp2_with fail;clear c3;go_loopw [37] (fun iv wr=>∃ (wq:World) (i:Nat),wq=wr∧i≤n∧iv = .int .i64 i∧NumsAt wr mb (lastOf (recsOf (allBts (xs.take i))))∧Chg (fun k=>k=mb) w3 wr) (fun iv _=>n-(RowKit.intOf iv).toNat)
  case atStart=>exact⟨_,0,rfl,Nat.zero_le _,rfl,HM3.out,Chg.refl _ _⟩
  case round=>
   obtain⟨wr,i,rfl,hi,rfl,hnm,hc⟩:=hrel
   have HC:=Lib.hid hc
   have HNM:=Lib.hid hnm
   clear hc hnm;by_cases hin:i<n
   ·have hii:(i:Int)<(n:Int):=by omega
    have hil:i<ss.length:=by rw[HNN.out];exact hin
    have hix:i<xs.length:=by rw[←HNE.out.1];exact hil
    obtain⟨b,rfl,hz⟩:=HCELL.out i hil
    have z0:=HC.out.cell hz (fun e=>HROW.out b rfl e)
    obtain⟨x,hxx⟩:∃ x,xs[i]? = some x:=⟨xs[i],List.getElem?_eq_getElem hix⟩
    have HSR:Hid (LgS B2 wr p l S2 (.slice (some ⟨b,0,none⟩) ss.length cap) ss d2 g2):=(HS3.out.growC (HC.out.weak (S':=B2) (fun k e=>.inl (e ▸ HB2m.out.2)))).less (fun k hk=>.inl hk)
    have HBAS:Hid (Calls Tryz.prog 57 #[.pointer (some ⟨ss[i].1,0,none⟩)] wr fun e w''=>e = .returned (.int .i64 x.1.base)∧Chg Nil wr w''):=by
     refine (HSR.out.baseAt HK2.out.1 hil hxx).mono ?_
     rintro e w'' ⟨h2,h3⟩
     rw[h3];exact⟨h2,Chg.refl _ _⟩
    have HRD:=Lib.hid (fun (w':World) (h:LgS B2 w' p l S2 (.slice (some ⟨b,0,none⟩) ss.length cap) ss d2 g2)=>h.readAll HK2.out.1 HDIR.out hil hxx)
    have HXI:Hid (∀ h:i<xs.length,xs[i]=x):=fun h=>by rw[List.getElem?_eq_getElem h] at hxx;exact Option.some.inj hxx
    obtain⟨q,hq⟩:∃ q,ss[i].1=q:=⟨_,rfl⟩
    obtain⟨xb,hxb⟩:∃ xb,x.1.base=xb:=⟨_,rfl⟩
    rw[hq] at z0 HBAS HRD
    rw[hxb] at HBAS HRD
    have HIX:=Lib.hid hix
    have HIN:=Lib.hid hin
    clear hz hil hix hxx hq hxb hin;go_wp2_with fail;refine HBAS.out.mono ?_
    rintro e w4 ⟨rfl,hc4⟩
    have HC4:=Lib.hid hc4
    have HRD4:=Lib.hid (HRD.out w4 (HSR.out.nil hc4))
    clear hc4 HBAS HRD z0;go_wp2_with fail;refine HRD4.out.mono ?_
    rintro e w5 ⟨u,rfl,⟨ms,hu,hms,-,hnew,hbo⟩,hc5⟩
    obtain⟨ua,uc,rfl,-,hmc⟩:=hu.val
    have HMS:=Lib.hid hms
    have HMC:=Lib.hid hmc
    have HBO:=Lib.hid hbo
    have HC35:Hid (Chg (fun k=>k=mb) w3 w5):=(HC.out.trans HC4.out (fun _ h=>h.elim)).trans hc5 (fun _ h=>h.elim)
    have HNM5:Hid (NumsAt w5 mb (lastOf (recsOf (allBts (xs.take i))))):=(HNM.out.chg HC4.out (fun h=>h)).chg hc5 (fun h=>h)
    have HNEW:Hid (∀ y,ua=some y→y.block≠mb):=fun y hy e=>by
     have h1:=(HNM.out.chg HC4.out (fun h=>h)).lt
     rcases hu.2 with ⟨hv,_⟩ | ⟨gg,cap',cur',hv,_⟩
     ·rw[hy] at hv;cases hv
     ·have h2:=hnew gg (by rw[hv];rfl)
      rw[hy] at hv;have h3:=(Value.slice.inj hv).1
      obtain rfl:=Option.some.inj h3
      have h4:gg=mb:=e
      omega
    have hml:ms.length≤99999:=by
     have h1:=(HK2.out.1.few x (by rw[←HXI.out HIX.out];exact List.getElem_mem _)).1
     rw[←hms,List.length_map] at h1;exact h1
    obtain⟨m,hmm⟩:∃ m,ms.length=m:=⟨_,rfl⟩
    have HMM:=Lib.hid hmm
    rw[hmm] at hml;rw[hmm];clear hu hms hnew hbo hc5 hmc hmm HRD4 HC4;go_wp2_with fail;go_loopw [53] (fun jv wr=>∃ (wq:World) (j:Nat),wq=wr∧j≤m∧jv = .int .i64 j∧NumsAt wr mb (lastOf (recsOf (allBts (xs.take i))++recsOf (x.2.take j)))∧Chg (fun k=>k=mb) w5 wr) (fun jv _=>m-(RowKit.intOf jv).toNat)
    case atStart=>exact⟨_,0,rfl,Nat.zero_le _,rfl,by rw[List.take_zero,show recsOf ([]:List Bt)=[] from rfl,List.append_nil];exact HNM5.out,Chg.refl _ _⟩
    case round=>
     obtain⟨wr2,j,rfl,hj,rfl,hnj,hcj⟩:=hrel
     have HCJ:=Lib.hid hcj
     have HNJ:=Lib.hid hnj
     clear hnj hcj;by_cases hjn:j<m
     ·have hjj:(j:Int)<(m:Int):=by omega
      have hjl:j<ms.length:=by rw[HMM.out];exact hjn
      obtain⟨gb,rfl,hmz⟩:=HMC.out j hjl
      obtain⟨mj,hmj⟩:∃ mj,ms[j]=mj:=⟨_,rfl⟩
      rw[hmj] at hmz;have hbr:=HBO.out.1 mj (by rw[←hmj];exact List.getElem_mem hjl)
      have hxj:j<x.2.length:=by rw[←HMS.out,List.length_map];exact hjl
      have HXJ:Hid (∀ h:j<x.2.length,x.2[j]=mj.b):=fun h=>by
       have h1:(ms.map Bm.b)[j]? = some mj.b:=by rw[List.getElem?_map,List.getElem?_eq_getElem hjl,hmj];rfl
       rw[HMS.out,List.getElem?_eq_getElem h] at h1
       exact Option.some.inj h1
      have HXL:=Lib.hid hxj
      have HBOK:Hid (mj.b.Ok):=by
       rw[←HXJ.out hxj]
       exact (HK2.out.1.of x (by rw[←HXI.out HIX.out];exact List.getElem_mem _)).ok _ (List.getElem_mem _)
      obtain⟨⟨bb,be,brs⟩,ra,rc⟩:=mj
      have y0:=(HCJ.out.cell (hmz 0 _ rfl) (fun e=>HNEW.out _ rfl e))
      have y1:=(HCJ.out.cell (hmz 1 _ rfl) (fun e=>HNEW.out _ rfl e))
      have y2:=(HCJ.out.cell (hmz 2 _ rfl) (fun e=>HNEW.out _ rfl e))
      rw[Nat.add_zero] at y0;have HBR:Hid (OwnR 37 w5 (.slice ra brs.length rc) brs):=hbr
      have hbx:=Box.new wr2 [.int .i64 bb,.int .i64 be,.slice ra brs.length rc] 112
      have hbx:Box (wr2.alloc (.cells #[.int .i64 bb,.int .i64 be,.slice ra brs.length rc] 112)) wr2.heap.size [.int .i64 bb,.int .i64 be,.slice ra brs.length rc] 112:=hbx
      have hal:=(Chg.refl Nil wr2).alloc (.cells #[.int .i64 bb,.int .i64 be,.slice ra brs.length rc] 112)
      have HJN:=Lib.hid hjn
      have hbl:brs.length≤50:=HBOK.out.nums.few
      clear hmz hmj hbr hxj hjl hjn;go_upto_region 14 with fail;clear y0 y1 y2;have HAL6:=Lib.hid hal
      obtain⟨gt,hgt⟩:∃ gt,wr2.heap.size=gt:=⟨_,rfl⟩
      generalize hw6:wr2.alloc (.cells #[.int .i64 bb,.int .i64 be,.slice ra brs.length rc] 112)=w6 at *;rw[hgt] at hbx
      rw[hgt];have yb2:=hbx.cell (j:=2) rfl
      have HC56:Hid (Chg (fun k=>k=mb) w5 w6):=HCJ.out.trans HAL6.out (fun _ h=>h.elim)
      obtain⟨pre,hpre⟩:∃ pre,recsOf (allBts (xs.take i))++recsOf (x.2.take j)=pre:=⟨_,rfl⟩
      have HPRE:=Lib.hid hpre
      have HNJ6:Hid (NumsAt w6 mb (lastOf pre)):=by rw[←hpre];exact HNJ.out.chg HAL6.out (fun h=>h)
      have HFL:Hid (∀ k,(pre++brs.take k).length<maxLen):=fun k=>by
       have e1:xs[i]'HIX.out=x:=HXI.out HIX.out
       have h1:=fill_len (xs:=xs) (i:=i) (j:=j) k HIX.out (by rw[e1];exact HXL.out)
       have e2:((xs[i]'HIX.out).2[j]'(by rw[e1];exact HXL.out)).rs=brs:=by
        simp only[e1]
        rw[HXJ.out HXL.out]
       rw[e2] at h1;rw[show (xs[i]'HIX.out).2=x.2 by rw[e1],HPRE.out] at h1
       have h2:=HFEW.out
       unfold maxLen;omega
      have HNMR:Hid (∀ g,ra=some ⟨g,0,none⟩→g≠mb):=HBR.out.ne_map HNM5.out
      obtain⟨rn,hrn⟩:∃ rn,brs.length=rn:=⟨_,rfl⟩
      have HRN:=Lib.hid hrn
      rw[hrn] at yb2 hbl HBR
      clear hbx hal hgt hw6 hpre hrn HAL6 HNJ;go_wp2_with fail;clear yb2;go_loopw [60] (fun kv wr=>∃ (wq:World) (k:Nat),wq=wr∧k≤rn∧kv = .int .i64 k∧NumsAt wr mb (lastOf (pre++brs.take k))∧Chg (fun k=>k=mb) w6 wr) (fun kv _=>rn-(RowKit.intOf kv).toNat)
      case atStart=>exact⟨_,0,rfl,Nat.zero_le _,rfl,by rw[List.take_zero,List.append_nil];exact HNJ6.out,Chg.refl _ _⟩
      case round=>
       obtain⟨wr3,k,rfl,hkr,rfl,hnk,hck⟩:=hrel
       have HCK:=Lib.hid hck
       have HNK:=Lib.hid hnk
       clear hnk hck;by_cases hkn:k<rn
       ·have hkk:(k:Int)<(rn:Int):=by omega
        have hkl:k<brs.length:=by rw[HRN.out];exact hkn
        obtain⟨gr,hgr,-,-,-,hrz⟩:=HBR.out.valIn (fun h0=>by rw[h0] at hkl;simp at hkl)
        subst hgr;obtain⟨r,hr⟩:∃ r:Rec,brs[k]=r:=⟨_,rfl⟩
        have hcell:∀ t u,(r.cells)[t]? = some u→wr3.cell? ⟨gr,k*6+t,none⟩=some u:=fun t u ht=>by
         have h1:=hrz k hkl t u (by rw[hr];exact ht)
         exact (HC56.out.trans HCK.out (fun _ h=>.inl h)).cell h1 (fun e=>HNMR.out gr rfl e)
        have HTK:Hid (brs.take (k+1)=brs.take k++[r]):=by rw[←hr];exact List.take_succ_eq_append_getElem hkl
        have hrok:Rec.Ok r:=HBOK.out.recs r (by rw[←hr];exact List.getElem_mem hkl)
        have hks:r.key.size≤maxLen:=hrok.key
        have HFLK:=Lib.hid (HFL.out k)
        have HKN:=Lib.hid hkn
        clear hrz hr hkl hrok hkn;obtain⟨ro,rt,rk,rkey,rg,rv⟩:=r
        have z0:=hcell 0 _ rfl
        have z1:=hcell 1 _ rfl
        have z2:=hcell 2 _ rfl
        have z3:=hcell 3 _ rfl
        have z4:=hcell 4 _ rfl
        have z5:=hcell 5 _ rfl
        rw[Nat.add_zero] at z0;have hbr:=Box.new wr3 [.int .i64 ro,.int .i64 rt,.bool rk,.string rkey,.bool rg,.string rv] 37
        have halr:=(Chg.refl Nil wr3).alloc (.cells #[.int .i64 ro,.int .i64 rt,.bool rk,.string rkey,.bool rg,.string rv] 37)
        have hbr:Box (wr3.alloc (.cells #[.int .i64 ro,.int .i64 rt,.bool rk,.string rkey,.bool rg,.string rv] 37)) wr3.heap.size [.int .i64 ro,.int .i64 rt,.bool rk,.string rkey,.bool rg,.string rv] 37:=hbr
        clear hcell;go_upto_region 17 with fail;clear z0 z1 z2 z3 z4 z5;obtain⟨gy,hgy⟩:∃ gy,wr3.heap.size=gy:=⟨_,rfl⟩
        generalize hw7:wr3.alloc (.cells #[.int .i64 ro,.int .i64 rt,.bool rk,.string rkey,.bool rg,.string rv] 37)=w7 at *;rw[hgy] at hbr
        rw[hgy];have y0:=hbr.cell (j:=0) rfl
        have y2:=hbr.cell (j:=2) rfl
        have y3:=hbr.cell (j:=3) rfl
        have hn7:=HNK.out.chg halr (fun h=>h)
        have HC67:Hid (Chg (fun k=>k=mb) w6 w7):=HCK.out.trans halr (fun _ h=>h.elim)
        have HN7:=Lib.hid hn7
        have HB7:Hid (Box w7 bm [.map (some mb)] 49):=HB3.out.chg ((HC35.out.trans HC56.out (fun _ h=>.inl h)).trans HC67.out (fun _ h=>.inl h)) (fun e=>by have:=HBMM.out;omega)
        clear hbr halr hgy hw7 hn7;cases rk with
        | true=>
         obtain⟨w8,hrun,hn8,hc8⟩:=HN7.out.next ⟨ro,rt,true,rkey,rg,rv⟩ rfl HFLK.out hks
         have hrun:(Instr.mapUpdate 49 (.map (some mb)) (.string rkey) (.int .i64 ro)).run Tryz.prog w7 = .ok () w8:=hrun
         have HN8:=Lib.hid hn8
         have HC8:=Lib.hid hc8
         have bm0:=HB7.out.cell (j:=0) rfl
         clear hn8 hc8 hks;go_wp2_with fail;go_roundw
         case rel=>exact⟨_,k+1,rfl,HKN.out,by go_num,by rw[HTK.out,←List.append_assoc];exact HN8.out,HC67.out.trans HC8.out (fun _ h=>.inl h)⟩
         case measure=>exact meas_two HKN.out
        | false=>
         clear hks;go_wp2_with fail;go_roundw
         case rel=>exact⟨_,k+1,rfl,HKN.out,by go_num,by rw[HTK.out,←List.append_assoc,lastOf_not rfl];exact HN7.out,HC67.out⟩
         case measure=>exact meas_two HKN.out
       ·have hkk:¬(k:Int)<(rn:Int):=by omega
        have HTL:Hid (brs.take k=brs):=List.take_of_length_le (by rw[HRN.out];omega)
        clear hkn;go_wp2_with fail;go_roundw
        case rel=>
         refine⟨_,j+1,rfl,HJN.out,by go_num,?_,HC56.out.trans HCK.out (fun _ h=>.inl h)⟩
         have h1:=HNK.out
         rw[HTL.out,←HPRE.out] at h1;rw[List.take_succ_eq_append_getElem HXL.out,recsOf_snoc,HXJ.out HXL.out,←List.append_assoc]
         exact h1
        case measure=>exact meas_two HJN.out
     ·have hjj:¬(j:Int)<(m:Int):=by omega
      have HTL:Hid (x.2.take j=x.2):=List.take_of_length_le (by rw[←HMS.out,List.length_map,HMM.out];omega)
      clear hjn;go_wp2_with fail;go_roundw
      case rel=>
       refine⟨_,i+1,rfl,HIN.out,by go_num,?_,HC35.out.trans HCJ.out (fun _ h=>.inl h)⟩
       have h1:=HNJ.out
       rw[HTL.out] at h1;rw[allBts_take HIX.out,recsOf_append,HXI.out HIX.out]
       exact h1
      case measure=>exact meas_two HIN.out
   ·have hii:¬(i:Int)<(n:Int):=by omega
    have hni:i=n:=by omega
    have HTX:Hid (xs.take i=xs):=List.take_of_length_le (by rw[←HNE.out.1,HNN.out];omega)
    obtain⟨n1,hn1⟩:∃ n1,n=n1+1:=⟨n-1,by have:=HNE.out;have:=HNN.out;omega⟩
    have HNN1:Hid (ss.length=n1+1):=HNN.out.trans hn1
    have HXL:Hid (xs.length=n1+1):=HNE.out.1.symm.trans HNN1.out
    have hn19:n1≤9999:=by omega
    have hk0:(1:Int)≤(n:Int):=by omega
    have hk1:(n:Int)-1≤(cap:Int):=by have:=HCAP.out;omega
    have hk2:(n:Int)-1=(n1:Int):=by omega
    have hk3:n1≤cap:=by have:=HCAP.out;omega
    have c3:wr.cell? ⟨l,3,none⟩=some (.slice a n cap):=by
     have h1:w3.cell? ⟨l,3,none⟩=some (.slice a ss.length cap):=HS3.out.c.cell (j:=3) rfl
     rw[HNN.out] at h1;exact HC.out.cell h1 (fun e=>(HS3.out.lb l (.inl rfl)).1 (by have e:l=mb:=e;rw[e];exact HB2m.out.2))
    have HWR:Hid (LgS B2 wr p l S2 (.slice a ss.length cap) ss d2 g2):=(HS3.out.growC (HC.out.weak (S':=B2) (fun k e=>.inl (e ▸ HB2m.out.2)))).less (fun k hk=>.inl hk)
    obtain⟨fs,hfs⟩:∃ fs,lastOf (recsOf (allBts xs))=fs:=⟨_,rfl⟩
    have HMF:Hid (NumsAt wr mb fs):=by rw[←hfs,←HTX.out];exact HNM.out
    have HBM:Hid (Box wr bm [.map (some mb)] 49):=HB3.out.chg HC.out (fun e=>by have:=HBMM.out;omega)
    have HCW:Hid (Chg (Off B1) w1 wr):=HC3.out.trans HC.out (fun k e=>.inr (by rw[e];exact HMB1.out))
    clear hin hni;go_upto_region 23 with fail;refine wp_region_mono _ (Chg Nil) (by kernel_rfl) (fun _ _ _ h k=>h.trans k (fun _ h=>h.elim)) [[],[0],[1],[2],[],[4],[5],[6],[7],[8],[3,9],[10],[]] rfl (by kernel_rfl) (Chg.refl _ _).drew ?_
    iterate 3 ((with_reducible apply Walk.eq);case h=>(intro w2 hw2 N hN;simp only[depM];go_simp;(try go_bits);with_reducible exact hN _ (Chg.refl _ _)))
    ((with_reducible apply Walk.eq);case h=>(intro w2 hw2 N hN;have hq:=hw2.cell c3 (fun h=>h);simp only[depM];go_simp;with_reducible exact hN _ (Chg.refl _ _)))
    iterate 3 ((with_reducible apply Walk.eq);case h=>(intro w2 hw2 N hN;simp only[depM];go_simp;(try go_bits);with_reducible exact hN _ (Chg.refl _ _)))
    ((with_reducible apply Walk.eq);case h=>(intro w2 hw2 N hN;have hq:=hw2.cell c3 (fun h=>h);simp only[depM];go_simp;with_reducible exact hN _ (Chg.refl _ _)))
    iterate 5 ((with_reducible apply Walk.eq);case h=>(intro w2 hw2 N hN;simp only[depM];go_simp;(try go_bits);with_reducible exact hN _ (Chg.refl _ _)))
    intro w9 hw9;simp only[List.nil_append,List.cons_append,Fin]
    have HW9:=Lib.hid (HWR.out.nil hw9)
    have HMF9:=Lib.hid (HMF.out.chg hw9 (fun h=>h))
    have HBM9:=Lib.hid (HBM.out.chg hw9 (fun h=>h))
    have HB9:Hid (Box w9 bn [.int .i64 now] 3∧Box w9 ba [.int .i64 age] 3):=by
     have h1:=HB1n.out
     have h2:=HCW.out
     have h3:bn≠mb∧ba≠mb:=by
      have h4:=HMB1.out
      have h5:=HB1l.out
      omega
     exact⟨(HBN3.out.chg HC.out h3.1).chg hw9 (fun h=>h),(HBA3.out.chg HC.out h3.2).chg hw9 (fun h=>h)⟩
    have HC9:Hid (Chg (Off B1) w1 w9):=HCW.out.trans hw9 (fun _ h=>h.elim)
    have HHAND9:Hid (Handle w9∧B2 0):=⟨HHAND.out.chg HC9.out (fun hn=>hn (HB1.out _ HEB.out)),HB2.out _ (HB1.out _ HEB.out)⟩
    obtain⟨P,hP⟩:∃ P,keepR fs (wrap64 (now-age))=P:=⟨_,rfl⟩
    have HP:=Lib.hid hP
    have HR3:Hid (compGo P (((xs.take n1).drop 0).map (·.2)) 0 0 d2 g2=R):=by
     have h1:=HR2.out
     rw[hfs,hP,HXL.out,Nat.add_sub_cancel] at h1;rw[List.drop_zero];exact h1
    have HLX:Hid (ss.length=xs.length):=HNE.out.1
    clear hw9 c3 hk0 hk1 hk2 hk3 hii hi hP hfs HWR HMF HBM HCW HR2 HC HNM HCELL HTX HM3 HS3;go_simp;go_wp2_with fail;go_loopw [86,18] (fun iv kv wr=>∃ (wq:World) (i k:Nat) (S':Nat→Prop) (ss':List (Nat×Value)) (d':Dk) (g':Lg) (ys:List SgB),wq=wr∧i≤n1∧iv = .int .i64 i∧kv = .int .i64 (k:Nat)∧Hid (k≤i*600000)∧LgS B2 wr p l S' (.slice a ss.length cap) ss' d' g'∧Hid (ss'.length=ss.length)∧Hid (LgOk d' g' (ys++xs.drop i))∧Hid (ys.length=i)∧Hid (g'.dir=g2.dir)∧Hid (compGo P (((xs.take n1).drop i).map (·.2)) i k d' g'=R)∧Chg (Off B2) w9 wr) (fun iv _ _=>n1-(RowKit.intOf iv).toNat)
    case atStart=>exact⟨_,0,0,S2,ss,d2,g2,[],rfl,Nat.zero_le _,rfl,rfl,Nat.zero_le _,HW9.out,rfl,HK2.out.1,rfl,rfl,HR3.out,Chg.refl _ _⟩
    case round=>
     obtain⟨wr4,i,k,S',ss',d',g',ys,rfl,hi,rfl,rfl,hkb,hs',hsl,hok,hyl,hdr,hcg,hc4⟩:=hrel
     have HKB:Hid _:=hkb
     have HS:=Lib.hid hs'
     have HSL:Hid _:=hsl
     have HOK:Hid _:=hok
     have HYL:Hid _:=hyl
     have HDR:Hid _:=hdr
     have HCG:Hid _:=hcg
     have HC4:=Lib.hid hc4
     clear hkb hs' hsl hok hyl hdr hcg hc4;by_cases hin:i<n1
     ·have hii:(i:Int)<(n1:Int):=by omega
      have hix:i<xs.length:=by rw[HXL.out];omega
      have hil:i<ss'.length:=by rw[HSL.out,HLX.out];exact hix
      obtain⟨a',cap',hv',-,hcell⟩:=HS.out.o.val
      obtain⟨rfl,-,rfl⟩:=Value.slice.inj hv'
      obtain⟨b,rfl,hz⟩:=hcell i (by rw[List.length_map];exact hil)
      rw[List.getElem_map] at hz;have z0:=hz
      obtain⟨x,hxx⟩:∃ x,xs[i]? = some x:=⟨xs[i],List.getElem?_eq_getElem hix⟩
      have HXI:Hid (xs.drop i=x::xs.drop (i+1)):=by
       rw[List.getElem?_eq_getElem hix] at hxx
       rw[←Option.some.inj hxx]
       exact (List.getElem_cons_drop (h:=hix)).symm
      have hxo:(ys++xs.drop i)[i]? = some x:=by
       rw[HXI.out,List.getElem?_append_right (by rw[HYL.out];exact Nat.le_refl _),HYL.out,Nat.sub_self]
       rfl
      have HBAS:Hid (Calls Tryz.prog 57 #[.pointer (some ⟨ss'[i].1,0,none⟩)] wr4 fun e w''=>e = .returned (.int .i64 x.1.base)∧Chg Nil wr4 w''):=by
       refine (HS.out.baseAt HOK.out hil hxo).mono ?_
       rintro e w'' ⟨h2,h3⟩
       rw[h3];exact⟨h2,Chg.refl _ _⟩
      have HRD:=Lib.hid (fun (w':World) (h:LgS B2 w' p l S' (.slice (some ⟨b,0,none⟩) ss.length cap) ss' d' g')=>h.readAll HOK.out (by rw[HDR.out];exact HDIR.out) hil hxo)
      have HXO:Hid ((ys++xs.drop i)[i]? = some x):=hxo
      obtain⟨q,hq⟩:∃ q,(ss'[i]'hil).1=q:=⟨_,rfl⟩
      have HIL:=Lib.hid hil
      have HQ:Hid (∀ h:i<ss'.length,ss'[i].1=q):=fun _=>hq
      obtain⟨xb,hxb⟩:∃ xb,x.1.base=xb:=⟨_,rfl⟩
      rw[hq] at z0 HBAS HRD
      rw[hxb] at HBAS HRD
      have HIN:=Lib.hid hin
      have HXM:Hid (x∈ys++xs.drop i):=List.mem_of_getElem? hxo
      clear hv' hcell hz hix hil hxx hxo hq hxb hin;go_wp2_with fail;refine HBAS.out.mono ?_
      rintro e w4 ⟨rfl,hc4⟩
      have HC44:=Lib.hid hc4
      have HRD4:=Lib.hid (HRD.out w4 (HS.out.nil hc4))
      clear hc4 HBAS HRD z0;go_wp2_with fail;refine HRD4.out.mono ?_
      rintro e w5 ⟨u,rfl,⟨ms,hu,hms,hba4,hnew,hbo⟩,hc5⟩
      have hnb:∀ t,u.ownBlock=some t→wr4.heap.size≤t:=fun t ht=>Nat.le_trans HC44.out.size (hnew t ht)
      obtain⟨ua,uc,rfl,huc,-⟩:=hu.val
      have HHN:Hid (∀ t,(Value.slice ua ms.length uc).ownBlock=some t→w4.heap.size≤t):=hnew
      have HMS:=Lib.hid hms
      have HBA':=Lib.hid hba4
      have HAP:=Lib.hid hbo.2
      have HC45:=Lib.hid hc5
      have hbk:=Box.new w5 [.int .i64 0] 3
      have hbk:Box (w5.alloc (.cells #[.int .i64 0] 3)) w5.heap.size [.int .i64 ((0:Nat):Int)] 3:=hbk
      have hal:=(Chg.refl Nil w5).alloc (.cells #[.int .i64 0] 3)
      have hu6:OwnM (w5.alloc (.cells #[.int .i64 0] 3)) (.slice ua ms.length uc) ms:=ownsRow_chg hu hal (fun _ _ h=>h)
      have hrows:=(hbo.nil hal).1
      obtain⟨m,hmm⟩:∃ m,ms.length=m:=⟨_,rfl⟩
      have HMM:=Lib.hid hmm
      have hml:m≤99999:=by
       have h1:=(HOK.out.few x HXM.out).1
       rw[←hms,List.length_map,hmm] at h1;exact h1
      rw[hmm] at hu6 HHN
      rw[hmm];clear hu hms hnew hnb hbo hc5 huc hmm HRD4 hba4;go_upto_region 30 with fail;obtain⟨bk,hbkk⟩:∃ bk,w5.heap.size=bk:=⟨_,rfl⟩
      generalize hw6:w5.alloc (.cells #[.int .i64 0] 3)=w6 at *;rw[hbkk] at hbk
      rw[hbkk];have HBKN:Hid (w4.heap.size≤bk):=by rw[←hbkk];exact HC45.out.size
      have HC46:Hid (Chg Nil w4 w6):=HC45.out.trans hal (fun _ h=>h.elim)
      have HC96:Hid (Chg (Off B2) w9 w6):=(HC4.out.trans HC44.out (fun _ h=>h.elim)).trans HC46.out (fun _ h=>h.elim)
      have hbl4:∀ t,B2 t→t<w4.heap.size:=fun t ht=>Nat.lt_of_lt_of_le (HS.out.lo t ht) HC44.out.size
      have HGC6:Hid (GcW w6 bm bn ba bk mb now age (gonesN P (x.2.take 0)) fs):=by
       refine⟨HBM9.out.chg HC96.out (fun hn=>hn HB2m.out.1),HB9.out.1.chg HC96.out (fun hn=>hn (HB2.out _ HB1n.out.1)),HB9.out.2.chg HC96.out (fun hn=>hn (HB2.out _ HB1n.out.2)),?_,HMF9.out.chg HC96.out (fun hn=>hn HB2m.out.2),?_⟩
       ·rw[List.take_zero,gonesN_nil];exact hbk
       ·have h1:=hbl4 _ HB2m.out.1
        have h2:=hbl4 _ (HB2.out _ HB1n.out.1)
        have h3:=hbl4 _ (HB2.out _ HB1n.out.2)
        have h4:=hbl4 _ HB2m.out.2
        have h5:=HBKN.out
        omega
      have HU6:=Lib.hid hu6
      have HROWS:=Lib.hid hrows
      have HG0:Hid (Box w6 bk [.int .i64 ((0:Nat):Int)] 3):=hbk
      have HRW6:Hid (∀ q∈ms,OwnR 37 w6 (rowOf q) q.b.rs):=hrows
      clear hbk hal hu6 hrows hbkk hw6 hbl4;go_wp2_with fail;go_loopw [103] (fun jv wr=>∃ (wq:World) (j:Nat),wq=wr∧j≤m∧jv = .int .i64 j∧OwnM wr (.slice ua m uc) (kpTo P ms j)∧Hid (∀ q∈kpTo P ms j,OwnR 37 wr (rowOf q) q.b.rs)∧GcW wr bm bn ba bk mb now age (gonesN P (x.2.take j)) fs∧Chg Nil w4 wr) (fun jv _=>m-(RowKit.intOf jv).toNat)
      case atStart=>exact⟨_,0,rfl,Nat.zero_le _,rfl,by rw[kpTo_zero];exact HU6.out,by rw[kpTo_zero];exact HROWS.out,HGC6.out,HC46.out⟩
      case round=>
       obtain⟨wr5,j,rfl,hj,rfl,huj,hrj,hgj,hcj⟩:=hrel
       have HUJ:=Lib.hid huj
       have HRJ:Hid _:=hrj
       have HGJ:=Lib.hid hgj
       have HCJ:=Lib.hid hcj
       clear huj hrj hgj hcj;by_cases hjm:j<m
       ·have hjj:(j:Int)<(m:Int):=by omega
        have hjl:j<ms.length:=by rw[HMM.out];exact hjm
        have hkl:j<(kpTo P ms j).length:=by rw[kpTo_len];exact hjl
        obtain⟨a',c',hv',-,hcell⟩:=HUJ.out.val
        obtain⟨rfl,-,rfl⟩:=Value.slice.inj hv'
        obtain⟨gb,rfl,hmz⟩:=hcell j hkl
        obtain⟨mj,hmj⟩:∃ mj,ms[j]=mj:=⟨_,rfl⟩
        have hkj:(kpTo P ms j)[j]=mj:=by
         have h1:=kpTo_at P ms hjl
         rw[List.getElem?_eq_getElem hkl,hmj] at h1
         exact Option.some.inj h1
        rw[hkj] at hmz;have HRW:=HRJ.out mj (by rw[←hkj];exact List.getElem_mem hkl)
        have hxj:j<x.2.length:=by rw[←HMS.out,List.length_map];exact hjl
        have HXJ:Hid (∀ h:j<x.2.length,x.2[j]=mj.b):=fun h=>by
         have h1:(ms.map Bm.b)[j]? = some mj.b:=by rw[List.getElem?_map,List.getElem?_eq_getElem hjl,hmj];rfl
         rw[HMS.out,List.getElem?_eq_getElem h] at h1
         exact Option.some.inj h1
        have HXL2:=Lib.hid hxj
        have HBOK:Hid (mj.b.Ok):=by
         rw[←HXJ.out hxj]
         exact (HOK.out.of x HXM.out).ok _ (List.getElem_mem _)
        have HNW:Hid (mj.b.rs≠[]→∀ t,(rowOf mj).ownBlock=some t→w4.heap.size≤t):=fun h0 t ht=>by
         have h1:=(HBA'.out mj (by rw[←hmj];exact List.getElem_mem hjl)).2.2
         obtain⟨bq,ra,rc⟩:=mj
         cases ra with
         | none=>cases ht
         | some y=>
          obtain rfl:=Option.some.inj ht
          exact h1 y rfl h0
        have HMJ:Hid (∀ h:j<ms.length,ms[j]=mj):=fun _=>hmj
        have HKJ:Hid (∀ h:j<(kpTo P ms j).length,(kpTo P ms j)[j]=mj):=fun _=>hkj
        obtain⟨⟨bb,be,brs⟩,ra,rc⟩:=mj
        have y2:=hmz 2 _ rfl
        have hrow:OwnR 37 wr5 (.slice ra brs.length rc) brs:=HRW
        have hdel:=del_any HGJ.out (Nat.le_trans ((HOK.out.gones P x HXM.out).2.2 j) (by omega)) ra brs rc hrow (by have h1:brs.length≤50:=HBOK.out.nums.few;omega) (fun r hr=>(HBOK.out.recs r hr).key) (fun t ht=>by
         rcases ht with rfl | rfl | rfl | rfl | rfl
         ·exact box_row_ne' HGJ.out.m hrow (by decide)
         ·exact box_row_ne' HGJ.out.n hrow (by decide)
         ·exact box_row_ne' HGJ.out.a hrow (by decide)
         ·exact box_row_ne' HGJ.out.k hrow (by decide)
         ·intro hob;rcases hrow.2 with ⟨hv,_⟩ | ⟨gg,cap',cur',hv,_,hg,_⟩
          ·rw[hv] at hob;cases hob
          ·rw[hv] at hob;obtain rfl:=Option.some.inj hob
           exact HGJ.out.mp.ne_row hg rfl)
        rw[HP.out] at hdel;unfold askF at hdel;have HDEL:=Lib.hid hdel
        have HJM:=Lib.hid hjm
        clear hv' hcell hmz hmj hkj hrow hxj hkl hjl hjm hdel HRW;go_wp2_with fail;refine HDEL.out.mono ?_
        rintro e w7 ⟨rfl,hr7,hg7,hc7⟩
        have HR7:=Lib.hid hr7
        have HG7:=Lib.hid hg7
        have HC7:=Lib.hid hc7
        have hgbk:(Value.slice (some ⟨gb,0,none⟩) m uc).ownBlock≠some bk:=box_row_ne' HGJ.out.k HUJ.out (by decide)
        have hu7:OwnM w7 (.slice (some ⟨gb,0,none⟩) m uc) (kpTo P ms j):=ownsRow_chg HUJ.out hc7 (fun t ht hb=>by
         rcases hb with rfl | ⟨_,hb⟩
         ·exact hgbk ht
         ·have h1:OwnR 37 wr5 (rowOf ⟨⟨bb,be,brs⟩,ra,rc⟩) brs:=HRJ.out _ (by rw[←HKJ.out (by rw[kpTo_len,HMM.out];exact HJM.out)];exact List.getElem_mem _)
          exact rows_apart HUJ.out h1 (by decide) t ht hb)
        have HU7:=Lib.hid hu7
        have f2:=hu7.free (j*3+2)
        have hkl:j<(kpTo P ms j).length:=by rw[kpTo_len,HMM.out];exact HJM.out
        have y2:w7.cell? ⟨gb,j*3+2,none⟩=some (.slice ra brs.length rc):=by
         obtain⟨a',c',hv',-,hcell⟩:=hu7.val
         obtain⟨h1,-,-⟩:=Value.slice.inj hv'
         obtain⟨g',hg',hmz⟩:=hcell j hkl
         rw[←h1] at hg';obtain rfl:gb=g':=by have:=Option.some.inj hg';exact (Addr.mk.inj this).1
         rw[HKJ.out hkl] at hmz
         exact hmz 2 _ rfl
        clear hr7 hg7 hc7 hu7 hgbk hkl HDEL;go_wp2_with fail;have hkl:j<(kpTo P ms j).length:=by rw[kpTo_len,HMM.out];exact HJM.out
        have hjl:j<ms.length:=by rw[HMM.out];exact HJM.out
        have hput:=HU7.out.put j hkl P
        rw[HKJ.out hkl] at hput
        have hnx:=kpTo_next P ms hjl
        rw[HMJ.out hjl] at hnx
        rw[hnx] at hput;have hst:=(Chg.refl (fun t=>t=gb) w7).setCell (p:=⟨gb,j*3+2,none⟩) (.inl rfl) (.slice ra (brs.filter P).length rc)
        have hrs:=BmOwn.step (p:=P) (bk:=bk) HAP.out HRJ.out hjl (HC7.out.weak (fun t ht=>.inl (by rw[HMJ.out hjl];exact ht.imp id (fun h=>h.2)))) (fun q hq=>box_row_ne' HG0.out (HRW6.out q hq) (by decide)) (by rw[HMJ.out hjl];exact HR7.out)
        have hrs2:∀ q∈kpTo P ms (j+1),OwnR 37 (w7.setCell ⟨gb,j*3+2,none⟩ (.slice ra (brs.filter P).length rc)) (rowOf q) q.b.rs:=fun q hq=>ownsRow_chg (hrs q hq) hst (fun t ht e=>rows_apart HU7.out (hrs q hq) (by decide) t (by rw[e];rfl) ht)
        have hgn:gonesN P (x.2.take (j+1))=gonesN P (x.2.take j)+(brs.length-(brs.filter P).length):=by
         rw[gonesN_snoc P HXL2.out,HXJ.out HXL2.out]
        have hg8:=HG7.out.nil hst (fun t ht e=>by
         rcases ht with rfl | rfl | rfl | rfl | rfl
         ·exact box_row_ne' HG7.out.m HU7.out (by decide) (by rw[e];rfl)
         ·exact box_row_ne' HG7.out.n HU7.out (by decide) (by rw[e];rfl)
         ·exact box_row_ne' HG7.out.a HU7.out (by decide) (by rw[e];rfl)
         ·exact box_row_ne' HG7.out.k HU7.out (by decide) (by rw[e];rfl)
         ·rcases HU7.out.2 with ⟨hv,_⟩ | ⟨gg,cap',cur',hv,_,hg,_⟩
          ·cases hv
          ·have h1:=(Value.slice.inj hv).1
           obtain rfl:gb=gg:=by have:=Option.some.inj h1;exact (Addr.mk.inj this).1
           exact HG7.out.mp.ne_row hg e)
        go_roundw
        case rel=>
         refine⟨_,j+1,rfl,HJM.out,by go_num,hput,hrs2,by rw[hgn];exact hg8,(HCJ.out.trans HC7.out (fun t ht=>.inr ?_)).trans hst (fun t ht=>.inr ?_)⟩
         ·rcases ht with rfl | ⟨h0,h1⟩
          ·exact HBKN.out
          ·exact HNW.out h0 t h1
         ·rw[ht];exact HHN.out gb rfl
        case measure=>exact meas_two HJM.out
       ·have hjj:¬(j:Int)<(m:Int):=by omega
        have hje:ms.length≤j:=by rw[HMM.out];omega
        have HUA:Hid (OwnM wr5 (.slice ua m uc) (ms.map (Bm.kp P))):=by rw[←kpTo_all P ms hje];exact HUJ.out
        have HRA:Hid (∀ q∈ms.map (Bm.kp P),OwnR 37 wr5 (rowOf q) q.b.rs):=by rw[←kpTo_all P ms hje];exact HRJ.out
        have HGA:Hid (GcW wr5 bm bn ba bk mb now age (gonesN P x.2) fs):=by
         have h1:=HGJ.out
         rw[List.take_of_length_le (by rw[←HMS.out,List.length_map];exact hje)] at h1
         exact h1
        have k0:=HGA.out.k.cell (j:=0) rfl
        obtain⟨gk,hgk⟩:∃ gk,gonesN P x.2=gk:=⟨_,rfl⟩
        have HGK:=Lib.hid hgk
        rw[hgk] at k0;have HXT:Hid ((xs.take n1).drop i=x::(xs.take n1).drop (i+1)):=by
         have h1:i<(xs.take n1).length:=by rw[List.length_take,HXL.out];have:=HIN.out;omega
         rw[←List.getElem_cons_drop (h:=h1)]
         have h2:=HXI.out
         have h3:i<xs.length:=by rw[HXL.out];have:=HIN.out;omega
         rw[←List.getElem_cons_drop (h:=h3)] at h2
         rw[List.getElem_take,(List.cons.inj h2).1]
         rfl
        have HYX:Hid (ys++xs.drop i=ys++x::xs.drop (i+1)):=by
         rw[HXI.out];rfl
        have HC4w:Hid (Chg Nil wr4 wr5):=HC44.out.trans HCJ.out (fun _ h=>h.elim)
        have hgl:gk≤600000:=by rw[←hgk];exact (HOK.out.gones P x HXM.out).2.1
        have hkl9:k≤9999*600000:=Nat.le_trans HKB.out (Nat.mul_le_mul_right _ (by have:=HIN.out;omega))
        clear hgk hje hjm;by_cases hg0:gk=0
        ·subst hg0;have hst:compGo P (((xs.take n1).drop (i+1)).map (·.2)) (i+1) k d' g'=R:=by
          have h1:=HCG.out
          rw[HXT.out,List.map_cons,compGo,if_pos HGK.out] at h1
          exact h1
         have HST:=Lib.hid hst
         clear hst;go_wp2_with fail;go_roundw
         case rel=>exact⟨_,i+1,k,S',ss',d',g',ys++[x],rfl,HIN.out,by go_num,rfl,Nat.le_trans HKB.out (Nat.mul_le_mul_right _ (Nat.le_succ _)),HS.out.nil HC4w.out,HSL.out,by rw[List.append_assoc];exact (HYX.out ▸ HOK.out),by unfold Hid;rw[List.length_append,HYL.out];rfl,HDR.out,HST.out,HC4.out.trans HC4w.out (fun _ h=>h.elim)⟩
         case measure=>exact meas_two HIN.out
        ·have hne0:((gk:Int)==0)=false:=beq_eq_false_iff_ne.2 (by omega)
         have HG00:=Lib.hid hg0
         obtain⟨B3,hB3⟩:∃ B3,(fun t=>B2 t∨(w4.heap.size≤t∧t<wr5.heap.size))=B3:=⟨_,rfl⟩
         have hs5:=(HS.out.nil HC44.out).growC (HCJ.out.weak (S':=B2) (fun _ h=>h.elim))
         rw[hB3] at hs5;have HB3w:Hid ((∀ t,B2 t→B3 t)∧B3 bk∧∀ t,w4.heap.size≤t→t<wr5.heap.size→B3 t):=by
          rw[←hB3];exact⟨fun t ht=>.inl ht,.inr ⟨HBKN.out,(Array.getElem?_eq_some_iff.1 HGA.out.k).1⟩,fun t h1 h2=>.inr ⟨h1,h2⟩⟩
         obtain⟨R1,hR1⟩:∃ R1,rewL d' x.1 (x.1.name++dotnew) (x.2.map (Bt.keep P))=R1:=⟨_,rfl⟩
         have HR1:=Lib.hid hR1
         have HRWR:Hid (Calls Tryz.prog 68 #[.pointer (some ⟨q,0,none⟩),.slice ua m uc] wr5 fun e w'=>e = .returned (errD R1.1)∧(∃ S8 ss8,LgS B2 w' p l S8 (.slice (some ⟨b,0,none⟩) ss.length cap) ss8 R1.2.1 { g' with segs:=g'.segs.set i R1.2.2 }∧ss8.length=ss'.length)∧Chg (Off B3) wr5 w'):=by
          have h1:=hs5.seg i HIL.out
          rw[hs5.segIs HOK.out HIL.out HXO.out] at h1
          have h2:=srewrite_any h1 (by have:=(HOK.out.each x HXM.out).nameLen (by rw[HDR.out];exact HDIR.out);omega) ua uc (ms.map (Bm.kp P)) (bms_of HUA.out HRA.out) ⟨fun h0 y hy=>?_,fun mm hmm h0 y hy=>?_⟩ ?_ (by rw[List.length_map,HMM.out];exact hml)
          ·rw[List.length_map,HMM.out] at h2;have h3:(ms.map (Bm.kp P)).map Bm.b=x.2.map (Bt.keep P):=by
            rw[←HMS.out,List.map_map,List.map_map];rfl
           rw[h3,hR1] at h2;have h4:=HQ.out HIL.out
           rw[h4] at h2;refine h2.mono ?_
           rintro e w' ⟨he,⟨S8,v8,h5⟩,h6⟩
           refine⟨he,⟨S8,_,((hs5.back HIL.out (by rw[h4];exact h5) h6).less HB3w.out.1),by rw[List.length_set]⟩,offI h6⟩
          ·refine .inl (HB3w.out.2.2 _ ?_ ?_)
           ·exact HHN.out y.block (by rw[hy];rfl)
           ·exact HUA.out.lt y.block (by rw[hy];rfl)
          ·obtain⟨m0,hm0,rfl⟩:=List.mem_map.1 hmm
           have h7:=HRA.out _ hmm
           refine .inl (HB3w.out.2.2 _ ?_ ?_)
           ·exact (HBA'.out m0 hm0).2.2 y hy (fun e=>h0 (by show m0.b.rs.filter P=[];rw[e];rfl))
           ·have hy:m0.ra=some y:=hy
            refine ownsRow_lt h7 y.block ?_
            show (Value.slice m0.ra _ _).ownBlock=_
            rw[hy];rfl
          ·intro mm hmm;obtain⟨m0,hm0,rfl⟩:=List.mem_map.1 hmm
           refine Bt.Ok.keep ?_ P
           exact (HOK.out.of x HXM.out).ok _ (by rw[←HMS.out];exact List.mem_map.2 ⟨m0,hm0,rfl⟩)
         have HRD:Hid (R1.1=0→RewD d' R1.2.1 x.1 R1.2.2 (x.1.name++dotnew) (x.2.map (Bt.keep P))):=fun h0=>by
          have hof:=HOK.out.of x HXM.out
          have h1:=rew_done (d:=d') (g:=x.1) (l:=x.2.map (Bt.keep P)) (new_ne x.1.name) (keep_ok hof.ok) (rising_map (Bt.keep P) (fun _=>rfl) (fun _=>rfl) hof.up) (by rw[hR1];exact h0)
          rw[hR1] at h1;exact h1
         have HCG1:Hid ((if R1.1=0 then compGo P (((xs.take n1).drop (i+1)).map (·.2)) (i+1) (k+gk) R1.2.1 { g' with segs:=g'.segs.set i R1.2.2 } else (R1.1,k,R1.2.1,({ g' with segs:=g'.segs.set i R1.2.2 }:Lg).fail R1.1))=R):=by
          have h1:=HCG.out
          have h2:=HOK.out
          rw[HYX.out] at h2;have h3:=h2.segAt
          rw[HYL.out] at h3;rw[HXT.out,List.map_cons,compGo,HGK.out,if_neg hg0,h3,hR1] at h1
          exact h1
         clear hs5 hB3 hR1 hg0;go_wp2_with fail;refine HRWR.out.mono ?_
         rintro e w8 ⟨rfl,⟨S8,ss8,hs8,hl8⟩,hc8⟩
         have HS8:=Lib.hid hs8
         have HL8:=Lib.hid hl8
         have HC8:=Lib.hid hc8
         have HC58:Hid (Chg (Off B2) wr5 w8):=hc8.weak (fun t ht=>.inl (fun hb=>ht (HB3w.out.1 t hb)))
         have HC98:Hid (Chg (Off B2) w9 w8):=(HC4.out.trans HC4w.out (fun _ h=>h.elim)).trans HC58.out (fun _ h=>.inl h)
         have k0:=hc8.cell k0 (fun hn=>hn HB3w.out.2.1)
         clear hs8 hl8 hc8 HRWR;by_cases hz:R1.1=0
         ·have hev:errD R1.1 = .nilIface:=by rw[hz];rfl
          rw[hev];have HZ:=Lib.hid hz
          have HST:Hid (compGo P (((xs.take n1).drop (i+1)).map (·.2)) (i+1) (k+gk) R1.2.1 { g' with segs:=g'.segs.set i R1.2.2 } = R):=by
           have h1:=HCG1.out
           rw[if_pos hz] at h1
           exact h1
          clear hev hz;go_wp2_with fail;go_roundw
          case rel=>
           have hok0:=HOK.out
           rw[HYX.out] at hok0;have hstep:=(comp_step hok0 (by
            intro h0;have h1:=congrArg List.length h0
            rw[List.length_drop,HXL.out,List.length_nil] at h1;have:=HIN.out
            omega) HS8.out.a.ok (HRD.out HZ.out)).1
           rw[HYL.out] at hstep;refine⟨_,i+1,k+gk,S8,ss8,R1.2.1,{ g' with segs:=g'.segs.set i R1.2.2 },ys++[(R1.2.2,x.2.map (Bt.keep P))],rfl,HIN.out,by go_num,by go_num,?_,HS8.out,HL8.out.trans HSL.out,?_,?_,HDR.out,HST.out,HC98.out⟩
           ·have h1:=HKB.out
            show k+gk≤(i+1)*600000
            omega
           ·rw[List.append_assoc];exact hstep
           ·unfold Hid;rw[List.length_append,HYL.out];rfl
          case measure=>exact meas_two HIN.out
         ·have hev:errD R1.1 = .iface 65 (.int .i64 (R1.1:Nat)):=errD_ne hz
          rw[hev];have HEND:Hid (R=(R1.1,k,R1.2.1,({ g' with segs:=g'.segs.set i R1.2.2 }:Lg).fail R1.1)):=by
           have h1:=HCG1.out
           rw[if_neg hz] at h1
           exact h1.symm
          have HFA:=Lib.hid (lfail_any HS8.out (HHAND9.out.1.chg HC98.out (fun hn=>hn HHAND9.out.2)) R1.1 hz)
          have HZ:=Lib.hid hz
          clear hev hz;go_wp2_with fail;refine HFA.out.mono ?_
          rintro e w10 ⟨rfl,h10,hc10⟩
          have H10:=Lib.hid h10
          have HC10:Hid (Chg (Off B2) w9 w10):=HC98.out.trans (HS8.out.offL hc10) (fun _ h=>.inl h)
          clear h10 hc10 HFA;go_wp2_with fail;go_ret2;rw[HEND.out];refine⟨?_,⟨S8,_,ss8,(H10.out.less HB2.out).less HB1.out,HL8.out.trans HSL.out⟩,(HAL.out.weak (fun _ h=>h.elim)).trans (HOFF.out (HC9.out.trans (HOF2.out HC10.out) (fun _ h=>.inl h))) (fun _ h=>.inl h)⟩
          show _=Ending.returned (.tuple #[.int .i64 (k:Nat),errD R1.1])
          rw[errD_ne HZ.out]
          rfl
     ·have hii:¬(i:Int)<(n1:Int):=by omega
      have hni:i=n1:=by omega
      have HEND:Hid (R=(0,k,d',g')):=by
       have h1:=HCG.out
       rw[List.drop_of_length_le (by rw[List.length_take];omega)] at h1
       exact h1.symm
      clear hin hni;go_wp2_with fail;go_ret2;rw[HEND.out];exact⟨rfl,⟨S',_,ss',(HS.out.less HB2.out).less HB1.out,HSL.out⟩,(HAL.out.weak (fun _ h=>h.elim)).trans (HOFF.out (HC9.out.trans (HOF2.out HC4.out) (fun _ h=>.inl h))) (fun _ h=>.inl h)⟩
 ·have hev:errD F.1 = .iface 65 (.int .i64 (F.1:Nat)):=errD_ne hk
  rw[hev];have HEND:Hid (R=(F.1,0,F.2.1,F.2.2)):=by
   rw[←HR.out];unfold compLg;rw[HF.out,if_neg hk]
   rfl
  have HKN:=Lib.hid hk
  clear hev hk;go_wp2_with fail;go_ret2;rw[HEND.out];refine⟨?_,⟨S2,sv,ss,HS2.out.less HB1.out,rfl⟩,(HAL.out.weak (fun _ h=>h.elim)).trans (HOFF.out HC2.out) (fun k hk=>.inl hk)⟩
  show _=Ending.returned (.tuple #[.int .i64 ((0:Nat):Int),errD F.1])
  rw[errD_ne HKN.out]
  rfl
end Go.Proofs.YtdjmifaidgbbaaaGreatDoor
