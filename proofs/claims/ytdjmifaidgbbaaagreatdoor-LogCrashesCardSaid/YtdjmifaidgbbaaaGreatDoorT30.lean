/-
  Old segments, and more than are wanted, go. (Of the logs' seat.)
-/
import Derived.Test.YtdjmifaidgbbaaaGreatDoorT29
set_option linter.unusedVariables false
set_option linter.unusedSimpArgs false
set_option maxHeartbeats 0
set_option maxRecDepth 200000
namespace Go.Proofs.YtdjmifaidgbbaaaGreatDoor
open Go.RowKit Go.Maps
def QR (Q:World→Prop) (S:Nat→Prop) (w w':World):Prop:=Chg S w w'∧(Q w→Q w')
theorem QR.refl {Q:World→Prop}{S:Nat→Prop} (w:World):QR Q S w w:=⟨Chg.refl _ _,id⟩
theorem QR.trans {Q:World→Prop}{S:Nat→Prop}{a b c:World}(h:QR Q S a b) (k:QR Q S b c):QR Q S a c:=⟨h.1.trans k.1 (fun _ h=>.inl h),fun x=>k.2 (h.2 x)⟩
theorem dropGo_len (start:Int):∀ (l:List Sg) (d:Dk),(dropGo start l d).2.2.length≤l.length∧(0<l.length→0<(dropGo start l d).2.2.length)∧∀ s∈(dropGo start l d).2.2,s∈l
 | [],d=>⟨Nat.le_refl _,fun h=>h,fun s h=>h⟩
 | [s],d=>⟨Nat.le_refl _,fun h=>h,fun s h=>h⟩
 | s0::s1::r,d=>by
  rw[dropGo];split
  ·split
   ·obtain⟨h1,h2,h3⟩:=dropGo_len start (s1::r) (d.remove s0.name).2
    exact⟨by simp only[List.length_cons] at h1 ⊢;omega,fun _=>h2 (by simp),fun s hs=>List.mem_cons_of_mem _ (h3 s hs)⟩
   ·exact⟨Nat.le_refl _,fun h=>h,fun s h=>h⟩
  ·exact⟨Nat.le_refl _,fun h=>h,fun s h=>h⟩
theorem fail_segs (g:Lg) (k:Nat):(g.fail k).segs=g.segs:=by unfold Lg.fail;split<;>rfl
theorem drop_len (d:Dk) (g:Lg):(dropLg d g).2.2.segs.length≤g.segs.length∧∀ s∈(dropLg d g).2.2.segs,s∈g.segs:=by
 unfold dropLg;simp only[fail_segs]
 obtain⟨h1,_,h3⟩:=dropGo_len g.start g.segs d
 exact⟨h1,h3⟩
theorem drop_less {d:Dk}{g:Lg}{s0 s1:Sg}{r:List Sg}(hs:g.segs=s0::s1::r)(h:s1.base≤g.start)(hk:(dropLg d g).1=0):(dropLg d g).2.2.segs.length<g.segs.length:=by
 rw[drop_go hs h] at hk ⊢
 by_cases hr:(d.remove s0.name).1=0
 ·rw[if_pos hr] at hk ⊢
  have:=(drop_len (d.remove s0.name).2 { g with segs:=s1::r }).1
  rw[hs];simp only[List.length_cons] at this ⊢
  omega
 ·rw[if_neg hr] at hk
  exact absurd hk hr
def oldSg (now age:Int) (s:Sg):Bool:=decide (0≤age)&&decide (latestOf s.pls<wrap64 (now-age))
def muchSg (bytes:Int) (l:List Sg) (s:Sg):Bool:=decide (0≤bytes)&&decide (bytes≤(sumSz l:Int)-(s.size:Int))
def retGo (now age bytes:Int):Nat→Nat→Dk→Lg→Nat×Nat×Dk×Lg
 | 0,n,d,g=>(0,n,d,g)
 | f+1,n,d,g=>match g.segs with
  | s0::s1::_=>if (oldSg now age s0||muchSg bytes g.segs s0)=true then (if (dropLg d { g with start:=max g.start s1.base }).1=0 then retGo now age bytes f (n+1) (dropLg d { g with start:=max g.start s1.base }).2.1 (dropLg d { g with start:=max g.start s1.base }).2.2 else ((dropLg d { g with start:=max g.start s1.base }).1,n,(dropLg d { g with start:=max g.start s1.base }).2.1,(dropLg d { g with start:=max g.start s1.base }).2.2)) else (0,n,d,g)
  | _=>(0,n,d,g)
def retLg (now age bytes:Int) (d:Dk) (g:Lg):Nat×Nat×Dk×Lg:=if g.down=true then (6,0,d,g) else retGo now age bytes g.segs.length 0 d g
theorem ret_one {now age bytes:Int}{f n:Nat}{d:Dk}{g:Lg}(h:g.segs.length≤1):retGo now age bytes f n d g=(0,n,d,g):=by
 cases f with
 | zero=>rfl
 | succ f=>
  rw[retGo];rcases hq:g.segs with _ | ⟨s0,_ | ⟨s1,r⟩⟩
  ·rfl
  ·rfl
  ·rw[hq] at h;simp only[List.length_cons] at h;omega
theorem ret_two {now age bytes:Int}{f n:Nat}{d:Dk}{g:Lg}{s0 s1:Sg}{r:List Sg}(h:g.segs=s0::s1::r):retGo now age bytes (f+1) n d g=if (oldSg now age s0||muchSg bytes g.segs s0)=true then (if (dropLg d { g with start:=max g.start s1.base }).1=0 then retGo now age bytes f (n+1) (dropLg d { g with start:=max g.start s1.base }).2.1 (dropLg d { g with start:=max g.start s1.base }).2.2 else ((dropLg d { g with start:=max g.start s1.base }).1,n,(dropLg d { g with start:=max g.start s1.base }).2.1,(dropLg d { g with start:=max g.start s1.base }).2.2)) else (0,n,d,g):=by
 rw[retGo];simp only[h]
theorem sumSz_cons (a:Sg) (l:List Sg):sumSz (a::l)=a.size+sumSz l:=by unfold sumSz;simp
def SegsFit (l:List Sg):Prop:=∀ s∈l,s.name.length≤1000∧s.pls.length≤100000∧s.size≤1000000000
def StQ (p l:Nat) (g:Lg) (sv:Value) (m:Int) (w:World):Prop:=∃ x:Int,(x=g.start∨x=m)∧Box w l (({ g with start:=x }:Lg).cells p sv) 99
theorem lretain_any {B:Nat→Prop} {w:World} {p l:Nat} {S:Nat→Prop} {sv:Value} {ss:List (Nat×Value)} {d:Dk} {g:Lg} (h:LgS B w p l S sv ss d g) (hne:0<ss.length) (hfew:ss.length≤10000) (hfit:SegsFit g.segs) (hG:Handle w) (hB:B 0) (now age bytes:Int) :
  Calls Tryz.prog 18 #[.pointer (some ⟨l,0,none⟩),.int .i64 now,.int .i64 age,.int .i64 bytes] w fun e w'=>e = .returned (.tuple #[.int .i64 ((retLg now age bytes d g).2.1:Nat),errD (retLg now age bytes d g).1])∧(∃ S' sv' ss',LgS B w' p l S' sv' ss' (retLg now age bytes d g).2.2.1 (retLg now age bytes d g).2.2.2∧0<ss'.length∧ss'.length≤ss.length)∧Chg (Off B) w w':=by
 have c6:=h.c.cell (j:=6) rfl
 have HH:=Lib.hid h
 by_cases hd:g.down=true
 ·have HF:Hid (retLg now age bytes d g=(6,0,d,g)):=if_pos hd
  rw[hd] at c6;clear h hfit hG hB hd;go_enter Tryz.func18,Tryz.ntmps18
  go_wp2_with fail;go_ret2;rw[HF.out];exact⟨rfl,⟨S,sv,ss,HH.out,hne,Nat.le_refl _⟩,Chg.refl _ _⟩
 have hdf:g.down=false:=by simpa using hd
 rw[hdf] at c6;obtain⟨R,hR⟩:∃ R,retLg now age bytes d g=R:=⟨_,rfl⟩
 have HR:Hid (retGo now age bytes g.segs.length 0 d g=R):=by rw[←hR];exact (if_neg hd).symm
 rw[hR];have HFIT:=Lib.hid hfit
 have HG:=Lib.hid hG
 have HB:=Lib.hid hB
 clear h hfit hG hB hR hd hdf;go_enter Tryz.func18,Tryz.ntmps18
 go_wp2_with fail;clear c6;go_loopw [10] (fun nv wr=>∃ (wq:World) (f n:Nat) (S':Nat→Prop) (sv':Value) (ss':List (Nat×Value)) (d':Dk) (g':Lg),wq=wr∧nv = .int .i64 (n:Nat)∧LgS B wr p l S' sv' ss' d' g'∧0<ss'.length∧ss'.length+n≤ss.length∧Hid (ss'.length≤f)∧Hid (retGo now age bytes f n d' g'=R)∧Hid (SegsFit g'.segs)∧Chg (Off B) w wr) (fun _ wr=>lenAt wr l)
 case atStart=>exact⟨_,g.segs.length,0,S,sv,ss,d,g,rfl,rfl,HH.out,hne,Nat.le_refl _,Nat.le_of_eq HH.out.len,HR.out,HFIT.out,Chg.refl _ _⟩
 case round=>
  obtain⟨wr,f,n,S',sv',ss',d',g',rfl,rfl,hs,hne',hle,hf,hrg,hfit,hc⟩:=hrel
  have HS:=Lib.hid hs
  have HF:Hid _:=hf
  have HRG:Hid _:=hrg
  have HFI:Hid _:=hfit
  have HC:=Lib.hid hc
  have HNE:=Lib.hid hne'
  have HLE:=Lib.hid hle
  have HLN:=Lib.hid hs.lenAt
  have c3:=hs.c.cell (j:=3) rfl
  obtain⟨a,cap,hv,hcap,hcell⟩:=hs.o.val
  rw[List.length_map] at hv;have HCELL:Hid (∀ i (hi:i<ss'.length),∃ b,a=some ⟨b,0,none⟩∧wr.cell? ⟨b,i,none⟩=some (.pointer (some ⟨ss'[i].1,0,none⟩))):=fun i hi=>by
   obtain⟨b,hb,hz⟩:=hcell i (by rw[List.length_map];exact hi)
   rw[List.getElem_map] at hz;exact⟨b,hb,hz⟩
  have hn1:ss'.length≤10000:=by omega
  have hnn:n≤10000:=by omega
  subst hv;clear hs hf hrg hfit hc hne' hle hcap hcell;by_cases h1:ss'.length≤1
  ·have HEND:Hid (R=(0,n,d',g')):=by rw[←HRG.out];exact ret_one (by rw[←HS.out.len];exact h1)
   have h1i:¬(1:Int)<(ss'.length:Int):=by omega
   obtain⟨nn,hnn2⟩:∃ nn,ss'.length=nn:=⟨_,rfl⟩
   rw[hnn2] at c3 h1 h1i hn1
   clear hnn2;go_wp2_with fail;go_ret2;rw[HEND.out];exact⟨rfl,⟨S',_,ss',HS.out,HNE.out,by have:=HLE.out;omega⟩,HC.out⟩
  obtain⟨s0,s1,r,hsg⟩:∃ s0 s1 r,g'.segs=s0::s1::r:=by
   have h2:=HS.out.len
   rcases hq:g'.segs with _ | ⟨s0,_ | ⟨s1,r⟩⟩
   ·rw[hq] at h2;simp only[List.length_nil] at h2;omega
   ·rw[hq] at h2;simp only[List.length_singleton] at h2;omega
   ·exact⟨s0,s1,r,rfl⟩
  have h1i:(1:Int)<(ss'.length:Int):=by omega
  have h1n:1<ss'.length:=by omega
  obtain⟨f,rfl⟩:∃ f2,f=f2+1:=⟨f-1,by have:=HF.out;omega⟩
  have hstep:=HRG.out
  rw[ret_two hsg] at hstep
  obtain⟨b,hb0,hz0⟩:=HCELL.out 0 (by omega)
  subst hb0;obtain⟨b',hb1,hz1⟩:=HCELL.out 1 h1n
  obtain rfl:b=b':=by have:=Option.some.inj hb1;exact (Addr.mk.inj this).1
  have z0:=hz0
  obtain⟨q0,hq0⟩:∃ q0,(ss'[0]'(by omega)).1=q0:=⟨_,rfl⟩
  obtain⟨q1,hq1⟩:∃ q1,(ss'[1]'h1n).1=q1:=⟨_,rfl⟩
  rw[hq0] at z0;have HZ1:Hid (wr.cell? ⟨b,1,none⟩=some (.pointer (some ⟨q1,0,none⟩))):=by rw[←hq1];exact hz1
  have e0:g'.segs[0]'(by rw[hsg];simp)=s0:=by simp only[hsg];rfl
  have e1:g'.segs[1]'(by rw[hsg];simp)=s1:=by simp only[hsg];rfl
  have hm0:∀ w',Chg Nil wr w'→Sm w' (ss'[0]'(by omega)).1 p (ss'[0]'(by omega)).2 s0:=fun w' hw=>by
   have h2:=(HS.out.nil hw).m 0 (by omega)
   rw[e0] at h2;exact h2
  have hf0:=HFI.out s0 (by rw[hsg];simp)
  have HLT:Hid (∀ w',Chg Nil wr w'→Calls Tryz.prog 63 #[.pointer (some ⟨q0,0,none⟩)] w' fun e w''=>e = .returned (.int .i64 (latestOf s0.pls))∧Chg Nil w' w''):=fun w' hw=>by
   rw[←hq0];exact slatest_any (hm0 w' hw) (by omega)
  have HSZ:Hid (∀ w',Chg Nil wr w'→Calls Tryz.prog 59 #[.pointer (some ⟨q0,0,none⟩)] w' fun e w''=>e = .returned (.int .i64 (s0.size:Nat))∧Chg Nil w' w''):=fun w' hw=>by
   rw[←hq0];refine (ssize_any (hm0 w' hw)).mono ?_
   rintro e w'' ⟨h2,h3⟩
   rw[h3];exact⟨h2,Chg.refl _ _⟩
  have HLS:Hid (∀ w',Chg Nil wr w'→Calls Tryz.prog 45 #[.pointer (some ⟨l,0,none⟩)] w' fun e w''=>e = .returned (.int .i64 (sumSz g'.segs:Nat))∧Chg Nil w' w''):=fun w' hw=>lsize_any (HS.out.nil hw).t hn1 (fun s hs=>(HFI.out s hs).2.2)
  obtain⟨la,hla⟩:∃ la,latestOf s0.pls=la:=⟨_,rfl⟩
  obtain⟨z,hz⟩:∃ z,s0.size=z:=⟨_,rfl⟩
  obtain⟨T,hT⟩:∃ T,sumSz g'.segs=T:=⟨_,rfl⟩
  have hzT:z≤T:=by rw[←hz,←hT,hsg,sumSz_cons];omega
  have hTl:T≤10000000000000:=by
   rw[←hT];have h2:=sumSz_le (l:=g'.segs) (m:=1000000000) (fun s hs=>(HFI.out s hs).2.2)
   rw[←HS.out.len] at h2;have h3:ss'.length*1000000000≤10000*1000000000:=Nat.mul_le_mul_right _ hn1
   omega
  rw[hla] at HLT;rw[hz] at HSZ;rw[hT] at HLS;have hold:oldSg now age s0=(decide (0≤age)&&decide (la<wrap64 (now-age))):=by unfold oldSg;rw[hla]
  have hmuch:muchSg bytes g'.segs s0=(decide (0≤bytes)&&decide (bytes≤(T:Int)-(z:Int))):=by unfold muchSg;rw[hT,hz]
  rw[hold,hmuch] at hstep;have HSTEP:=Lib.hid hstep
  have HSG:=Lib.hid hsg
  have HQ1:Hid (∀ h:1<ss'.length,ss'[1].1=q1):=fun _=>hq1
  have hwz:wrap64 ((T:Int)-(z:Int))=(T:Int)-(z:Int):=by unfold wrap64;omega
  have H1N:=Lib.hid h1n
  clear hstep hsg hz0 hz1 hq0 hq1 hb1 e0 e1 hm0 hf0 hla hz hT hold hmuch h1 h1n;obtain⟨nn,hnn2⟩:∃ nn,ss'.length=nn:=⟨_,rfl⟩
  have HNL:=Lib.hid hnn2
  rw[hnn2] at c3 h1i hn1
  clear hnn2;go_upto_region 6 with fail;go_cut [12] (fun v wy=>v = .bool (decide (0≤age)&&decide (la<wrap64 (now-age)))∧Chg Nil wr wy)
  case first=>
   by_cases ha:0≤age
   ·have hd1:decide (0≤age)=true:=decide_eq_true ha
    have HD1:=Lib.hid hd1
    have HL1:=Lib.hid (HLT.out wr (Chg.refl _ _))
    clear hd1;go_wp2_with fail;refine HL1.out.mono ?_
    rintro e w5 ⟨rfl,hc5⟩
    have HC5:=Lib.hid hc5
    clear hc5 c3 z0;go_wp2_with fail;go_meet
    case rel=>exact⟨by rw[HD1.out];rfl,HC5.out⟩
   ·have hd1:decide (0≤age)=false:=decide_eq_false ha
    have HD1:=Lib.hid hd1
    clear hd1;go_wp2_with fail;go_meet
    case rel=>exact⟨by rw[HD1.out];rfl,Chg.refl _ _⟩
  obtain⟨rfl,hcw⟩:=hcut
  have HCW1:=Lib.hid hcw
  clear hcw;go_upto_region 7 with fail;go_cut [13] (fun v wy=>v = .bool (decide (0≤bytes)&&decide (bytes≤(T:Int)-(z:Int)))∧Chg Nil wr wy)
  case first=>
   by_cases ha:0≤bytes
   ·have hd1:decide (0≤bytes)=true:=decide_eq_true ha
    have HD1:=Lib.hid hd1
    have HL1:=Lib.hid (HLS.out wc HCW1.out)
    clear hd1 c3 z0;go_wp2_with fail;refine HL1.out.mono ?_
    rintro e w5 ⟨rfl,hc5⟩
    have HC5:=Lib.hid (HCW1.out.trans hc5 (fun _ h=>h.elim))
    have HZ1':=Lib.hid (HSZ.out w5 HC5.out)
    clear hc5 HL1;go_wp2_with fail;refine HZ1'.out.mono ?_
    rintro e w6 ⟨rfl,hc6⟩
    have HC6:=Lib.hid (HC5.out.trans hc6 (fun _ h=>h.elim))
    clear hc6 HZ1';go_wp2_with fail;go_meet
    case rel=>exact⟨by rw[HD1.out];rfl,HC6.out⟩
   ·have hd1:decide (0≤bytes)=false:=decide_eq_false ha
    have HD1:=Lib.hid hd1
    clear hd1;go_wp2_with fail;go_meet
    case rel=>exact⟨by rw[HD1.out];rfl,HCW1.out⟩
  obtain⟨rfl,hcw⟩:=hcut
  have HCW2:=Lib.hid hcw
  clear hcw HCW1 c3 z0;obtain⟨ob,hob⟩:∃ ob,(decide (0≤age)&&decide (la<wrap64 (now-age)))=ob:=⟨_,rfl⟩
  obtain⟨mb,hmb⟩:∃ mb,(decide (0≤bytes)&&decide (bytes≤(T:Int)-(z:Int)))=mb:=⟨_,rfl⟩
  rw[hob,hmb] at HSTEP;rw[hob,hmb];clear hob hmb hwz hzT hTl;go_upto_region 8 with fail;go_cut [58] (fun v wy=>v = .bool (!(ob||mb))∧Chg Nil wr wy)
  case first=>
   cases ob<;>cases mb<;>(go_wp2_with fail;go_meet;case rel=>exact⟨rfl,HCW2.out⟩)
  obtain⟨rfl,hcw⟩:=hcut
  have HCW3:=Lib.hid hcw
  clear hcw HCW2;cases hom:(ob||mb) with
  | false=>
   have HEND:Hid (R=(0,n,d',g')):=by rw[←HSTEP.out,hom];rfl
   clear hom;go_wp2_with fail;go_ret2;rw[HEND.out];exact⟨rfl,⟨S',_,ss',HS.out.nil HCW3.out,HNE.out,by have:=HLE.out;omega⟩,HC.out.trans HCW3.out (fun _ h=>h.elim)⟩
  | true=>
   obtain⟨m,hm⟩:∃ m,max g'.start s1.base=m:=⟨_,rfl⟩
   obtain⟨g1,hg1⟩:∃ g1:Lg,({ g' with start:=m }:Lg)=g1:=⟨_,rfl⟩
   have hst2:=HSTEP.out
   rw[hom,if_pos rfl,hm,hg1] at hst2
   have HST2:=Lib.hid hst2
   have HS3:=Lib.hid (HS.out.nil HCW3.out)
   have HLL:Hid (¬(Value.slice (some ⟨b,0,none⟩) nn cap).ownBlock=some l):=by
    have h2:=HS.out.o
    rw[HNL.out] at h2;exact box_row_ne' HS.out.c h2 (by decide)
   have HBL:Hid (¬b=l):=fun e=>HLL.out (by rw[←e];rfl)
   have HBX3:Hid (Box wc l (g'.cells p (.slice (some ⟨b,0,none⟩) nn cap)) 99):=by rw[←HNL.out];exact HS3.out.c
   have HQ0:Hid (StQ p l g' (.slice (some ⟨b,0,none⟩) nn cap) m wc):=⟨g'.start,.inl rfl,HBX3.out⟩
   have HZ1c:Hid (wc.cell? ⟨b,1,none⟩=some (.pointer (some ⟨q1,0,none⟩))):=HCW3.out.cell HZ1.out (fun h=>h)
   have z1:=HZ1c.out
   have e1':g'.segs[1]'(by rw[HSG.out];simp)=s1:=by simp only[HSG.out];rfl
   have HBA:Hid (∀ w',Chg (fun k=>k=l) wc w'→Calls Tryz.prog 57 #[.pointer (some ⟨q1,0,none⟩)] w' fun e w''=>e = .returned (.int .i64 s1.base)∧w''=w'):=fun w' hw=>by
    have h2:=HS3.out.m 1 H1N.out
    rw[e1'] at h2;have h3:=h2.chg hw (fun k hk e=>(HS3.out.lb l (.inl rfl)).2 (e ▸ THas.of H1N.out hk))
    rw[←HQ1.out H1N.out]
    exact sbase_any h3
   obtain⟨st,hst⟩:∃ st,g'.start=st:=⟨_,rfl⟩
   obtain⟨b1,hb1⟩:∃ b1,s1.base=b1:=⟨_,rfl⟩
   have HB1:=Lib.hid hb1
   rw[hst,hb1] at hm;rw[hb1] at HBA;have HM:=Lib.hid hm
   have HSTE:=Lib.hid hst
   have HG1:=Lib.hid hg1
   clear hst2 hom hg1 hst hb1 e1' HSTEP HLT HSZ HLS HCELL;go_upto_region 9 with fail;go_cut [59] (fun _ wy=>Box wy l (({ g' with start:=m }:Lg).cells p (.slice (some ⟨b,0,none⟩) nn cap)) 99∧Chg (fun k=>k=l) wc wy)
   case first=>
    by_cases hsb:st<b1
    ·obtain rfl:m=b1:=by omega
     have hsn:¬m<m:=by omega
     refine Ch.wp_region_chain _ (QR (StQ p l g' (.slice (some ⟨b,0,none⟩) nn cap) m) (fun k=>k=l)) [15] (fun vs w=>match vs with | []=>True | _=>Box w l (({ g' with start:=m }:Lg).cells p (.slice (some ⟨b,0,none⟩) nn cap)) 99) (by kernel_rfl) (fun _=>QR.refl _) (fun _ _ _ h k=>h.trans k) [[],[],[1],[2],[3],[],[5],[6],[7],[8],[9],[10],[4,11],[0],[13],[12,14]] rfl (by kernel_rfl) (by kernel_rfl) ⟨(Chg.refl _ _).drew,fun h=>h⟩ trivial ?_
     iterate 4 ((with_reducible apply Ch.Walk.eq);(case hd=>rfl);(case hi=>rfl);case h=>(intro w2 hw2 N hN;simp only[Ch.depB];go_simp;(try go_bits);with_reducible exact hN _ (QR.refl _) (fun _ h=>h)))
     refine Ch.Walk.sat (fun v _=>v = .int .i64 st∨v = .int .i64 m) (fun _ _ _ h _=>h) rfl rfl ?_ ?_
     ·intro w2 hw2 N hN;obtain⟨x,hx,hb⟩:=hw2.2 HQ0.out
      rw[HSTE.out] at hx;have c4:=hb.cell (j:=4) rfl
      rcases hx with rfl | rfl
      ·simp only[Ch.depB,Ch.depC,Nat.reduceBEq,Nat.reduceAdd]
       go_simp;exact hN _ _ (.inl rfl) (QR.refl _) (fun _ h=>h)
      ·simp only[Ch.depB,Ch.depC,Nat.reduceBEq,Nat.reduceAdd]
       go_simp;exact hN _ _ (.inr rfl) (QR.refl _) (fun _ h=>h)
     simp only[List.nil_append,List.cons_append]
     iterate 3 ((with_reducible apply Ch.Walk.eq);(case hd=>rfl);(case hi=>rfl);case h=>(intro w2 hw2 N hN;simp only[Ch.depB];go_simp;(try go_bits);with_reducible exact hN _ (QR.refl _) (fun _ h=>h)))
     (with_reducible apply Ch.Walk.eq);(case hd=>rfl);(case hi=>rfl);case h=>
      intro w2 hw2 N hN;obtain⟨x,_,hb⟩:=hw2.2 HQ0.out
      have c3:=hb.cell (j:=3) rfl
      clear hb;simp only[Ch.depB,Ch.depC,Nat.reduceBEq,Nat.reduceAdd]
      go_simp;with_reducible exact hN _ (QR.refl _) (fun _ h=>h)
     simp only[List.nil_append,List.cons_append]
     ((with_reducible apply Ch.Walk.eq);(case hd=>rfl);(case hi=>rfl);case h=>(intro w2 hw2 N hN;simp only[Ch.depB];go_simp;(try go_bits);with_reducible exact hN _ (QR.refl _) (fun _ h=>h)))
     ((with_reducible apply Ch.Walk.eq);(case hd=>rfl);(case hi=>rfl);case h=>(intro w2 hw2 N hN;(have hq:=hw2.1.cell z1 (fun e=>HBL.out e));simp only[Ch.depB];go_simp;(try go_bits);with_reducible exact hN _ (QR.refl _) (fun _ h=>h)))
     simp only[List.nil_append,List.cons_append]
     (with_reducible apply Ch.Walk.eq);(case hd=>rfl);(case hi=>rfl);case h=>
      intro w2 hw2 N hN;simp only[Ch.depB,Ch.depC,Nat.reduceBEq,Nat.reduceAdd]
      go_simp;refine (HBA.out w2 hw2.1).mono ?_
      rintro e w5 ⟨rfl,h5⟩
      rw[h5];exact⟨_,rfl,hN _ (QR.refl _) (fun _ h=>h)⟩
     simp only[List.nil_append,List.cons_append]
     (with_reducible apply Ch.Walk.eq);(case hd=>rfl);(case hi=>rfl);case h=>
      intro w2 hw2 N hN;simp only[Ch.depB,Ch.depC,Nat.reduceBEq,Nat.reduceAdd]
      rintro v (rfl | rfl)
      ·go_simp;with_reducible exact hN _ (QR.refl _) (fun _ h=>h)
      ·go_simp;with_reducible exact hN _ (QR.refl _) (fun _ h=>h)
     simp only[List.nil_append,List.cons_append]
     iterate 2 ((with_reducible apply Ch.Walk.eq);(case hd=>rfl);(case hi=>rfl);case h=>(intro w2 hw2 N hN;simp only[Ch.depB];go_simp;(try go_bits);with_reducible exact hN _ (QR.refl _) (fun _ h=>h)))
     simp only[List.nil_append,List.cons_append]
     refine Ch.Walk.chainS 0 rfl rfl ?_ ?_
     ·intro w9 hw9 vs hvs hF N hN;obtain rfl:=List.eq_nil_of_length_eq_zero hvs
      obtain⟨x,hx,hb⟩:=hw9.2 HQ0.out
      have b4:=hb.cell (j:=4) rfl
      have f4:=hb.free 4
      have HB:=Lib.hid (hb.set 4 (.int .i64 m))
      clear hb hF hx;simp only[Ch.depB,Ch.depC,Nat.reduceBEq,Nat.reduceAdd]
      go_simp;have hbm:Box (w9.setCell ⟨l,4,none⟩ (.int .i64 m)) l (({ g' with start:=m }:Lg).cells p (.slice (some ⟨b,0,none⟩) nn cap)) 99:=HB.out
      exact hN _ ⟨(Chg.refl (fun k=>k=l) w9).setCell (p:=⟨l,4,none⟩) (.inl rfl) _,fun _=>⟨m,.inr rfl,hbm⟩⟩ hbm
     intro w9 hw9;simp only[List.nil_append,List.cons_append,Ch.Fin,List.map_cons,List.map_nil,List.getD_cons_zero,List.getD_cons_succ]
     intro v4 _ hF;have HF9:Hid (Box w9 l (({ g' with start:=m }:Lg).cells p (.slice (some ⟨b,0,none⟩) nn cap)) 99):=hF
     have HW9:=Lib.hid hw9.1
     clear hF hw9;go_simp;go_wp2_with fail;go_meet
     case rel=>exact⟨HF9.out,HW9.out⟩
    ·obtain rfl:m=st:=by omega
     refine Ch.wp_region_chain _ (QR (StQ p l g' (.slice (some ⟨b,0,none⟩) nn cap) m) (fun k=>k=l)) [15] (fun vs w=>match vs with | []=>True | _=>Box w l (({ g' with start:=m }:Lg).cells p (.slice (some ⟨b,0,none⟩) nn cap)) 99) (by kernel_rfl) (fun _=>QR.refl _) (fun _ _ _ h k=>h.trans k) [[],[],[1],[2],[3],[],[5],[6],[7],[8],[9],[10],[4,11],[0],[13],[12,14]] rfl (by kernel_rfl) (by kernel_rfl) ⟨(Chg.refl _ _).drew,fun h=>h⟩ trivial ?_
     iterate 4 ((with_reducible apply Ch.Walk.eq);(case hd=>rfl);(case hi=>rfl);case h=>(intro w2 hw2 N hN;simp only[Ch.depB];go_simp;(try go_bits);with_reducible exact hN _ (QR.refl _) (fun _ h=>h)))
     refine Ch.Walk.sat (fun v _=>v = .int .i64 m∨v = .int .i64 m) (fun _ _ _ h _=>h) rfl rfl ?_ ?_
     ·intro w2 hw2 N hN;obtain⟨x,hx,hb⟩:=hw2.2 HQ0.out
      rw[HSTE.out] at hx;have c4:=hb.cell (j:=4) rfl
      rcases hx with rfl | rfl
      ·simp only[Ch.depB,Ch.depC,Nat.reduceBEq,Nat.reduceAdd]
       go_simp;exact hN _ _ (.inl rfl) (QR.refl _) (fun _ h=>h)
      ·simp only[Ch.depB,Ch.depC,Nat.reduceBEq,Nat.reduceAdd]
       go_simp;exact hN _ _ (.inr rfl) (QR.refl _) (fun _ h=>h)
     simp only[List.nil_append,List.cons_append]
     iterate 3 ((with_reducible apply Ch.Walk.eq);(case hd=>rfl);(case hi=>rfl);case h=>(intro w2 hw2 N hN;simp only[Ch.depB];go_simp;(try go_bits);with_reducible exact hN _ (QR.refl _) (fun _ h=>h)))
     (with_reducible apply Ch.Walk.eq);(case hd=>rfl);(case hi=>rfl);case h=>
      intro w2 hw2 N hN;obtain⟨x,_,hb⟩:=hw2.2 HQ0.out
      have c3:=hb.cell (j:=3) rfl
      clear hb;simp only[Ch.depB,Ch.depC,Nat.reduceBEq,Nat.reduceAdd]
      go_simp;with_reducible exact hN _ (QR.refl _) (fun _ h=>h)
     simp only[List.nil_append,List.cons_append]
     ((with_reducible apply Ch.Walk.eq);(case hd=>rfl);(case hi=>rfl);case h=>(intro w2 hw2 N hN;simp only[Ch.depB];go_simp;(try go_bits);with_reducible exact hN _ (QR.refl _) (fun _ h=>h)))
     ((with_reducible apply Ch.Walk.eq);(case hd=>rfl);(case hi=>rfl);case h=>(intro w2 hw2 N hN;(have hq:=hw2.1.cell z1 (fun e=>HBL.out e));simp only[Ch.depB];go_simp;(try go_bits);with_reducible exact hN _ (QR.refl _) (fun _ h=>h)))
     simp only[List.nil_append,List.cons_append]
     (with_reducible apply Ch.Walk.eq);(case hd=>rfl);(case hi=>rfl);case h=>
      intro w2 hw2 N hN;simp only[Ch.depB,Ch.depC,Nat.reduceBEq,Nat.reduceAdd]
      go_simp;refine (HBA.out w2 hw2.1).mono ?_
      rintro e w5 ⟨rfl,h5⟩
      rw[h5];exact⟨_,rfl,hN _ (QR.refl _) (fun _ h=>h)⟩
     simp only[List.nil_append,List.cons_append]
     (with_reducible apply Ch.Walk.eq);(case hd=>rfl);(case hi=>rfl);case h=>
      intro w2 hw2 N hN;simp only[Ch.depB,Ch.depC,Nat.reduceBEq,Nat.reduceAdd]
      rintro v (rfl | rfl)
      ·go_simp;with_reducible exact hN _ (QR.refl _) (fun _ h=>h)
      ·go_simp;with_reducible exact hN _ (QR.refl _) (fun _ h=>h)
     simp only[List.nil_append,List.cons_append]
     iterate 2 ((with_reducible apply Ch.Walk.eq);(case hd=>rfl);(case hi=>rfl);case h=>(intro w2 hw2 N hN;simp only[Ch.depB];go_simp;(try go_bits);with_reducible exact hN _ (QR.refl _) (fun _ h=>h)))
     simp only[List.nil_append,List.cons_append]
     refine Ch.Walk.chainS 0 rfl rfl ?_ ?_
     ·intro w9 hw9 vs hvs hF N hN;obtain rfl:=List.eq_nil_of_length_eq_zero hvs
      obtain⟨x,hx,hb⟩:=hw9.2 HQ0.out
      have b4:=hb.cell (j:=4) rfl
      have f4:=hb.free 4
      have HB:=Lib.hid (hb.set 4 (.int .i64 m))
      clear hb hF hx;simp only[Ch.depB,Ch.depC,Nat.reduceBEq,Nat.reduceAdd]
      go_simp;have hbm:Box (w9.setCell ⟨l,4,none⟩ (.int .i64 m)) l (({ g' with start:=m }:Lg).cells p (.slice (some ⟨b,0,none⟩) nn cap)) 99:=HB.out
      exact hN _ ⟨(Chg.refl (fun k=>k=l) w9).setCell (p:=⟨l,4,none⟩) (.inl rfl) _,fun _=>⟨m,.inr rfl,hbm⟩⟩ hbm
     intro w9 hw9;simp only[List.nil_append,List.cons_append,Ch.Fin,List.map_cons,List.map_nil,List.getD_cons_zero,List.getD_cons_succ]
     intro v4 _ hF;have HF9:Hid (Box w9 l (({ g' with start:=m }:Lg).cells p (.slice (some ⟨b,0,none⟩) nn cap)) 99):=hF
     have HW9:=Lib.hid hw9.1
     clear hF hw9;go_simp;go_wp2_with fail;go_meet
     case rel=>exact⟨HF9.out,HW9.out⟩
   obtain⟨hb9,hc9⟩:=hcut
   have HS9:Hid (LgS B wc p l S' (.slice (some ⟨b,0,none⟩) ss'.length cap) ss' d' g1):=by
    refine HS3.out.cells hc9 ?_ ?_
    ·rw[←HG1.out,HNL.out];exact hb9
    ·rw[←HG1.out]
   have HC9:Hid (Chg (Off B) w wc):=(HC.out.trans HCW3.out (fun _ h=>h.elim)).trans (hc9.weak (S':=Off B) (fun k hk=>.inl fun hb=>(HS3.out.lb l (.inl rfl)).1 (hk ▸ hb))) (fun k hk=>.inl hk)
   have hgs:g1.segs=g'.segs:=by rw[←HG1.out]
   have HGS:=Lib.hid hgs
   have HDP:=Lib.hid (ldrop_any HS9.out HNE.out (by rw[HNL.out];exact hn1) (fun s hs=>(HFI.out s (hgs ▸ hs)).1) (HG.out.chg HC9.out (fun hn=>hn HB.out)) HB.out)
   obtain⟨⟨dk,d10,g10⟩,hD⟩:∃ D,dropLg d' g1=D:=⟨_,rfl⟩
   have HDL:Hid (dk=0→g10.segs.length<g'.segs.length):=fun hk=>by
    have h2:=drop_less (d:=d') (g:=g1) (s0:=s0) (s1:=s1) (r:=r) (by rw[hgs];exact HSG.out) (by rw[←HG1.out,HB1.out];show b1≤m;have:=HM.out;omega) (by rw[hD];exact hk)
    rw[hD,hgs] at h2;exact h2
   have HMM:Hid (∀ s∈g10.segs,s∈g'.segs):=fun s hs=>by
    have h2:=(drop_len d' g1).2
    rw[hD,hgs] at h2;exact h2 s hs
   have hst3:=HST2.out
   rw[hD] at HDP hst3
   have HST3:Hid ((if dk=0 then retGo now age bytes f (n+1) d10 g10 else (dk,n,d10,g10))=R):=hst3
   clear hb9 hc9 hgs hD hst3 z1 HST2;go_wp2_with fail;refine HDP.out.mono ?_
   rintro e w10 ⟨rfl,⟨S10,sv10,ss10,hs10,hne10,hle10⟩,hc10⟩
   have HS10:=Lib.hid hs10
   have HC10:Hid (Chg (Off B) w w10):=HC9.out.trans hc10 (fun k hk=>.inl hk)
   have HN10:=Lib.hid hne10
   have HL10:=Lib.hid hle10
   clear hs10 hc10 hne10 hle10 HDP;by_cases hk:dk=0
   ·have hst4:retGo now age bytes f (n+1) d10 g10=R:=by rw[←HST3.out,if_pos hk]
    have HST4:=Lib.hid hst4
    have hlt:=HDL.out hk
    rw[←HS10.out.len,←HS.out.len] at hlt;have HLT2:=Lib.hid hlt
    have hz:errD dk = .nilIface:=by rw[hk];rfl
    have e9:errD (dk,d10,g10).1 = .nilIface:=hz
    rw[e9];clear hst4 hlt hz hk e9;go_wp2_with fail;go_roundw
    case rel=>exact⟨_,f,n+1,S10,sv10,ss10,d10,g10,rfl,by go_num,HS10.out,HN10.out,by have h2:=HLT2.out;have h3:=HLE.out;omega,by have h2:=HLT2.out;have h3:=HF.out;unfold Hid;omega,HST4.out,fun s hs=>HFI.out s (HMM.out s hs),HC10.out⟩
    case measure=>
     rw[HS10.out.lenAt,HLN.out];exact HLT2.out
   ·have hst4:R=(dk,n,d10,g10):=by rw[←HST3.out,if_neg hk]
    have HST4:=Lib.hid hst4
    have hz:errD (dk,d10,g10).1 = .iface 65 (.int .i64 (dk:Nat)):=errD_ne hk
    have HKK:=Lib.hid hk
    rw[hz];clear hst4 hz hk;go_wp2_with fail;go_ret2;rw[HST4.out];refine⟨?_,⟨S10,sv10,ss10,HS10.out,HN10.out,by have h2:=HL10.out;have h3:=HLE.out;omega⟩,HC10.out⟩
    show _=Ending.returned (.tuple #[.int .i64 (n:Nat),errD dk])
    rw[errD_ne HKK.out]
    rfl
end Go.Proofs.YtdjmifaidgbbaaaGreatDoor
