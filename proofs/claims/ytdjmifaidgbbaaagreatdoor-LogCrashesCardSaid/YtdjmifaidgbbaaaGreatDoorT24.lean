/-
  Records that go are taken out of their row. (Of the logs' seat.)
-/
import Derived.Test.YtdjmifaidgbbaaaGreatDoorT23
set_option linter.unusedVariables false
set_option linter.unusedSimpArgs false
set_option maxHeartbeats 0
set_option maxRecDepth 200000
namespace Go.Proofs.YtdjmifaidgbbaaaGreatDoor
open Go.RowKit Go.Maps
theorem OwnR.valIn {w:World}{e:TypeId}{a:Option Addr}{n c:Nat}{rs:List Rec}(h:OwnR e w (.slice a n c) rs)(h0:rs≠[]):∃ g,a=some ⟨g,0,none⟩∧n=rs.length∧rs.length≤c∧(∀ j,w.frozen? ⟨g,j,none⟩=false)∧∀ i (h:i<rs.length),∀ j u,(rs[i].cells)[j]? = some u→w.cell? ⟨g,i*6+j,none⟩=some u:=by
 rcases h.2 with ⟨_,hn⟩ | ⟨g,cap,cur,hv,_,hg,hle,_⟩
 ·exact absurd (List.eq_nil_of_length_eq_zero hn) h0
 ·rw[Value.slice.injEq] at hv;obtain⟨rfl,rfl,rfl⟩:=hv
  have e1:∀ j,(⟨g,0,none⟩:Addr).add j=⟨g,j,none⟩:=fun j=>by unfold Addr.add;split<;>simp_all
  refine⟨g,rfl,rfl,hle,fun j=>by simp[World.frozen?,hg],fun i hi j u hj=>?_⟩
  have:=World.ownsRow.cells h (g:=g) rfl (i*6+j) _ (fm_get (f:=Rec.cells) (n:=6) (fun _=>rfl) rs i hi j _ hj)
  rwa [e1] at this
def keepR (fs:List (Nm×Int)) (lim:Int) (r:Rec):Bool:=!goneR fs lim r
structure DelK (fs:List (Nm×Int)) (lim:Int) (rs X:List Rec) (i j:Nat):Prop where
 len:X.length=rs.length
 kept:X.take i=(rs.take j).filter (keepR fs lim)
 rest:X.drop j=rs.drop j
 cnt:i=((rs.take j).filter (keepR fs lim)).length
 lt:i<j
 jn:j≤rs.length
theorem DelK.skip {fs:List (Nm×Int)}{lim:Int}{rs X:List Rec}{i j:Nat}(h:DelK fs lim rs X i j)(hj:j<rs.length)(hg:goneR fs lim rs[j]=true):DelK fs lim rs X i (j+1):=by
 have h1:(rs.take (j+1)).filter (keepR fs lim)=(rs.take j).filter (keepR fs lim):=by
  rw[List.take_succ_eq_append_getElem hj,List.filter_append,List.filter_cons_of_neg (by unfold keepR;rw[hg];simp)]
  simp
 refine⟨h.len,by rw[h1];exact h.kept,?_,by rw[h1];exact h.cnt,by have:=h.lt;omega,by omega⟩
 rw[←List.drop_drop,←List.drop_drop,h.rest]
theorem DelK.keep {fs:List (Nm×Int)}{lim:Int}{rs X:List Rec}{i j:Nat}(h:DelK fs lim rs X i j)(hj:j<rs.length)(hg:goneR fs lim rs[j]=false):DelK fs lim rs (X.set i rs[j]) (i+1) (j+1):=by
 have hlt:=h.lt
 have hix:i<X.length:=by rw[h.len];omega
 have h1:(rs.take (j+1)).filter (keepR fs lim)=(rs.take j).filter (keepR fs lim)++[rs[j]]:=by
  rw[List.take_succ_eq_append_getElem hj,List.filter_append,List.filter_cons_of_pos (by unfold keepR;rw[hg];rfl)]
  simp
 refine⟨by rw[List.length_set];exact h.len,?_,?_,by rw[h1,List.length_append,←h.cnt];rfl,by omega,by omega⟩
 ·rw[h1,←h.kept,List.take_succ_eq_append_getElem (by rw[List.length_set];exact hix),List.getElem_set_self,List.take_set_of_le (Nat.le_refl _)]
 ·rw[List.drop_set_of_lt (by omega),←List.drop_drop,←List.drop_drop,h.rest]
theorem del_any {w:World} {bm bn ba bk mb:Nat} {now age:Int} {k:Nat} {fs:List (Nm×Int)} (h:GcW w bm bn ba bk mb now age k fs) (hk:k≤800000) (ra:Option Addr) (rs:List Rec) (rc:Nat) (hrow:OwnR 37 w (.slice ra rs.length rc) rs) (hl:rs.length≤1000) (hok:∀ r∈rs,r.key.size≤maxLen)
  (hn:∀ i,(i=bm∨i=bn∨i=ba∨i=bk∨i=mb)→(Value.slice ra rs.length rc).ownBlock≠some i) :
  Calls Tryz.prog 66 #[.slice ra rs.length rc,askF bm bn ba bk] w fun e w'=>
   e = .returned (.slice ra (rs.filter (keepR fs (wrap64 (now-age)))).length rc)∧OwnR 37 w' (.slice ra (rs.filter (keepR fs (wrap64 (now-age)))).length rc) (rs.filter (keepR fs (wrap64 (now-age))))∧
   GcW w' bm bn ba bk mb now age (k+(rs.length-(rs.filter (keepR fs (wrap64 (now-age)))).length)) fs∧Chg (fun i=>i=bk∨(rs≠[]∧(Value.slice ra rs.length rc).ownBlock=some i)) w w':=by
 obtain⟨lim,hlim⟩:∃ lim,wrap64 (now-age)=lim:=⟨_,rfl⟩
 have hidx:=idx_any h (by omega) ra rs rc (by
  obtain⟨a',c',he,hr,_⟩:=hrow.recs
  obtain⟨rfl,_,_⟩:=Value.slice.inj he
  exact hr) hl hok (fun h0 x hx e=>by
  obtain⟨g,hg,_⟩:=hrow.valIn h0
  rw[hg] at hx;obtain rfl:=Option.some.inj hx
  exact hn bk (.inr (.inr (.inr (.inl rfl)))) (by rw[hg,←e];rfl))
 rw[hlim];unfold askF at hidx ⊢
 have HIDX:=Lib.hid hidx
 have HROW:=Lib.hid hrow
 have HOK:=Lib.hid hok
 have HN:=Lib.hid hn
 have HLIM:=Lib.hid hlim
 have HKK:=Lib.hid hk
 clear h hrow hok hn hidx hlim hk;go_enter Tryz.func66,Tryz.ntmps66
 go_wp2_with fail;refine HIDX.out.mono ?_
 rintro e w1 ⟨hix,hc1⟩
 have HC1:=Lib.hid hc1
 have HROW1:Hid (OwnR 37 w1 (.slice ra rs.length rc) rs):=ownsRow_chg HROW.out hc1 (fun i hi e=>HN.out bk (.inr (.inr (.inr (.inl rfl)))) (e ▸ hi))
 clear hc1;rcases hix with ⟨hall,rfl,hg⟩ | ⟨i0,hi0,hgo,hno,rfl,hg⟩
 ·have HG:=Lib.hid hg
  have hfl:rs.filter (keepR fs lim)=rs:=by
   rw[List.filter_eq_self];intro r hr;unfold keepR;rw[←HLIM.out,hall r hr]
   rfl
  have HFL:=Lib.hid hfl
  clear hg hall hfl;go_wp2_with fail;go_ret;rw[HFL.out,Nat.sub_self,Nat.add_zero];exact⟨rfl,HROW1.out,HG.out,HC1.out.weak (fun i hi=>.inl (.inl hi))⟩
 ·have hrne:rs≠[]:=fun h0=>by rw[h0] at hi0;simp at hi0
  have HD0:Hid (DelK fs lim rs rs i0 (i0+1)):=by
   have h1:(rs.take i0).filter (keepR fs lim)=rs.take i0:=List.filter_eq_self.2 (fun r hr=>by unfold keepR;rw[←HLIM.out,hno r hr];rfl)
   have h2:(rs.take (i0+1)).filter (keepR fs lim)=rs.take i0:=by
    rw[List.take_succ_eq_append_getElem hi0,List.filter_append,h1,List.filter_cons_of_neg (by unfold keepR;rw[←HLIM.out,hgo];simp)]
    simp
   exact⟨rfl,by rw[h2],rfl,by rw[h2,List.length_take];omega,by omega,by omega⟩
  have HG:=Lib.hid hg
  obtain⟨g,hg0,-,hrc,-,-⟩:=HROW1.out.valIn hrne
  subst hg0;have HNG:Hid (g≠bm∧g≠bn∧g≠ba∧g≠bk∧g≠mb):=⟨fun e=>HN.out bm (.inl rfl) (by rw[←e];rfl),fun e=>HN.out bn (.inr (.inl rfl)) (by rw[←e];rfl),fun e=>HN.out ba (.inr (.inr (.inl rfl))) (by rw[←e];rfl),fun e=>HN.out bk (.inr (.inr (.inr (.inl rfl)))) (by rw[←e];rfl),fun e=>HN.out mb (.inr (.inr (.inr (.inr rfl)))) (by rw[←e];rfl)⟩
  have hne1:((i0:Int) == -1)=false:=beq_eq_false_iff_ne.2 (by omega)
  have HR0:=Lib.hid hrne
  have HI0:=Lib.hid hi0
  obtain⟨n,hn⟩:∃ n,rs.length=n:=⟨_,rfl⟩
  have HNN:=Lib.hid hn
  rw[hn] at hl hrc HROW1 hi0
  rw[hn];clear hg hgo hno hrne hn HIDX;go_wp2_with fail;go_loopw [5,6] (fun iv jv wr=>∃ (wq:World) (i j:Nat) (X:List Rec),wq=wr∧iv = .int .i64 i∧jv = .int .i64 j∧Hid (DelK fs lim rs X i j)∧OwnR 37 wr (.slice (some ⟨g,0,none⟩) n rc) X∧GcW wr bm bn ba bk mb now age (k+(j-i)) fs∧Chg (fun i=>i=bk∨i=g) w wr) (fun _ jv _=>n-(RowKit.intOf jv).toNat)
  case atStart=>exact⟨_,i0,i0+1,rs,rfl,rfl,by go_num,HD0.out,HROW1.out,by rw[show i0+1-i0=1 by omega];exact HG.out,HC1.out.weak (fun i hi=>.inl (.inl hi))⟩
  case round=>
   obtain⟨wr,i,j,X,rfl,rfl,rfl,hdk,hox,hgw,hc⟩:=hrel
   have HDK:Hid _:=hdk
   have HOX:=Lib.hid hox
   have HGW:=Lib.hid hgw
   have HC:=Lib.hid hc
   have hXl:X.length=n:=by rw[HDK.out.len];exact HNN.out
   have hij:i<j:=HDK.out.lt
   have hjn:j≤n:=by rw[←HNN.out];exact HDK.out.jn
   have hX0:X≠[]:=fun h0=>by rw[h0] at hXl;simp at hXl;omega
   obtain⟨g',hg',-,-,hfr,hcl⟩:=hox.valIn hX0
   obtain rfl:g=g':=by have:=Option.some.inj hg';exact (Addr.mk.inj this).1
   have HCL:=Lib.hid hcl
   have HFR:=Lib.hid hfr
   have HXL:=Lib.hid hXl
   clear hdk hox hgw hc hcl hfr hg' hX0 hXl;by_cases hjl:j<n
   ·have hjj:(j:Int)<(n:Int):=by omega
    have hjx:j<X.length:=by rw[HXL.out];exact hjl
    have hjr:j<rs.length:=by rw[HNN.out];exact hjl
    have hxj:X[j]=rs[j]:=by
     have h1:(X.drop j)[0]? = (rs.drop j)[0]?:=by rw[HDK.out.rest]
     rw[List.getElem?_drop,List.getElem?_drop,Nat.add_zero,List.getElem?_eq_getElem hjx,List.getElem?_eq_getElem hjr] at h1
     exact Option.some.inj h1
    obtain⟨q,hq⟩:∃ q:Rec,rs[j]=q:=⟨_,rfl⟩
    have hcell:∀ t u,(q.cells)[t]? = some u→wr.cell? ⟨g,j*6+t,none⟩=some u:=by rw[←hq,←hxj];exact HCL.out j hjx
    have HGA:=Lib.hid (fun (w':World) (h:GcW w' bm bn ba bk mb now age (k+(j-i)) fs)=>gone_any h (by have:=HKK.out;omega) q (HOK.out q (by rw[←hq];exact List.getElem_mem hjr)))
    have HQ:Hid (∀ h:j<rs.length,rs[j]=q):=fun _=>hq
    have HJL:=Lib.hid hjl
    rw[HLIM.out] at HGA;obtain⟨gq,hgq⟩:∃ gq,goneR fs lim q=gq:=⟨_,rfl⟩
    rw[hgq] at HGA;have HGQ:=Lib.hid hgq
    clear hxj hq hjx hjr hjl hgq;obtain⟨qo,qt,qk,qkey,qg,qv⟩:=q
    have earr:(Rec.cells ⟨qo,qt,qk,qkey,qg,qv⟩).toArray = #[.int .i64 qo,.int .i64 qt,.bool qk,.string qkey,.bool qg,.string qv]:=rfl
    rw[earr] at HGA;clear earr;have z0:=hcell 0 _ rfl
    have z1:=hcell 1 _ rfl
    have z2:=hcell 2 _ rfl
    have z3:=hcell 3 _ rfl
    have z4:=hcell 4 _ rfl
    have z5:=hcell 5 _ rfl
    rw[Nat.add_zero] at z0;clear hcell;have hbr:=Box.new wr [.int .i64 qo,.int .i64 qt,.bool qk,.string qkey,.bool qg,.string qv] 37
    have halr:=(Chg.refl Nil wr).alloc (.cells #[.int .i64 qo,.int .i64 qt,.bool qk,.string qkey,.bool qg,.string qv] 37)
    have hbr:Box (wr.alloc (.cells #[.int .i64 qo,.int .i64 qt,.bool qk,.string qkey,.bool qg,.string qv] 37)) wr.heap.size [.int .i64 qo,.int .i64 qt,.bool qk,.string qkey,.bool qg,.string qv] 37:=hbr
    have hgl:g<wr.heap.size∧bk<wr.heap.size:=⟨ownsRow_lt HOX.out g rfl,(Array.getElem?_eq_some_iff.1 HGW.out.k).1⟩
    have HGL:=Lib.hid hgl
    go_upto_region 8 with fail;clear z0 z1 z2 z3 z4 z5;have HAL:=Lib.hid halr
    generalize hw5:wr.alloc (.cells #[.int .i64 qo,.int .i64 qt,.bool qk,.string qkey,.bool qg,.string qv] 37)=w5 at *;obtain⟨gr,hgr⟩:∃ gr,wr.heap.size=gr:=⟨_,rfl⟩
    rw[hgr] at hbr hgl
    rw[hgr];have HGR:=Lib.hid hgr
    have HBR:=Lib.hid hbr
    have y0:=hbr.cell (j:=0) rfl
    have y1:=hbr.cell (j:=1) rfl
    have y2:=hbr.cell (j:=2) rfl
    have y3:=hbr.cell (j:=3) rfl
    have y4:=hbr.cell (j:=4) rfl
    have y5:=hbr.cell (j:=5) rfl
    have HG5:=Lib.hid (HGA.out w5 (HGW.out.nil HAL.out (fun _ _ h=>h)))
    clear hbr halr hgr hw5;go_wp2_with fail;refine HG5.out.mono ?_
    rintro e w6 ⟨rfl,hg6,hc6⟩
    have HG6:=Lib.hid hg6
    have HC56:Hid (Chg (fun i=>i=bk) wr w6):=(HAL.out.weak (fun _ h=>h.elim)).trans hc6 (fun j hj=>.inl hj)
    have HOX6:Hid (OwnR 37 w6 (.slice (some ⟨g,0,none⟩) n rc) X):=ownsRow_chg HOX.out HC56.out (fun t ht e=>by obtain rfl:g=t:=Option.some.inj ht;exact HNG.out.2.2.2.1 e)
    have HBR6:=Lib.hid (HBR.out.chg hc6 (fun e=>by omega))
    clear hg6 hc6 HG5 HGA y0 y1 y2 y3 y4 y5 hgl;cases gq with
    | true=>
     have hdk:=HDK.out.skip (by rw[HNN.out];exact HJL.out) (by rw[HQ.out (by rw[HNN.out];exact HJL.out)];exact HGQ.out)
     have HDK2:=Lib.hid hdk
     clear hdk;go_wp2_with fail;go_roundw
     case rel=>exact⟨_,i,j+1,X,rfl,rfl,by go_num,HDK2.out,HOX6.out,by rw[show j+1-i=j-i+1 by omega];exact HG6.out,HC.out.trans HC56.out (fun t ht=>.inl (.inl ht))⟩
     case measure=>exact meas_two HJL.out
    | false=>
     have y0:=HBR6.out.cell (j:=0) rfl
     have y1:=HBR6.out.cell (j:=1) rfl
     have y2:=HBR6.out.cell (j:=2) rfl
     have y3:=HBR6.out.cell (j:=3) rfl
     have y4:=HBR6.out.cell (j:=4) rfl
     have y5:=HBR6.out.cell (j:=5) rfl
     have hii:(i:Int)<(n:Int):=by omega
     have hix:i<X.length:=by rw[HXL.out];omega
     obtain⟨x,hx⟩:∃ x:Rec,X[i]=x:=⟨_,rfl⟩
     have hX0:X≠[]:=fun h0=>by rw[h0] at hix;simp at hix
     obtain⟨g',hg',-,-,hfr6,hcl6⟩:=HOX6.out.valIn hX0
     obtain rfl:g=g':=by have:=Option.some.inj hg';exact (Addr.mk.inj this).1
     have hcx:∀ t u,(x.cells)[t]? = some u→w6.cell? ⟨g,i*6+t,none⟩=some u:=by rw[←hx];exact hcl6 i hix
     have x0:=hcx 0 _ rfl
     have x1:=hcx 1 _ rfl
     have x2:=hcx 2 _ rfl
     have x3:=hcx 3 _ rfl
     have x4:=hcx 4 _ rfl
     have x5:=hcx 5 _ rfl
     rw[Nat.add_zero] at x0;have f0:=hfr6 (i*6)
     have f1:=hfr6 (i*6+1)
     have f2:=hfr6 (i*6+2)
     have f3:=hfr6 (i*6+3)
     have f4:=hfr6 (i*6+4)
     have f5:=hfr6 (i*6+5)
     clear hcx hfr6 hcl6 hg' hX0 hx hix;go_wp2_with fail;have hdk:=HDK.out.keep (by rw[HNN.out];exact HJL.out) (by rw[HQ.out (by rw[HNN.out];exact HJL.out)];exact HGQ.out)
     rw[HQ.out (by rw[HNN.out];exact HJL.out)] at hdk
     have hput:=HOX6.out.put i (by rw[HXL.out];omega) ⟨qo,qt,qk,qkey,qg,qv⟩
     have hcp:=put_chg w6 g (i*6) (i*6+1) (i*6+2) (i*6+3) (i*6+4) (i*6+5) (.int .i64 qo) (.int .i64 qt) (.bool qk) (.string qkey) (.bool qg) (.string qv)
     have hgc:=HG6.out.nil hcp (fun t ht e=>by rcases ht with rfl | rfl | rfl | rfl | rfl<;>first | exact HNG.out.1 e.symm | exact HNG.out.2.1 e.symm | exact HNG.out.2.2.1 e.symm | exact HNG.out.2.2.2.1 e.symm | exact HNG.out.2.2.2.2 e.symm)
     go_roundw
     case rel=>exact⟨_,i+1,j+1,_,rfl,by go_num,by go_num,hdk,hput,by rw[show j+1-(i+1)=j-i by omega];exact hgc,(HC.out.trans HC56.out (fun t ht=>.inl (.inl ht))).trans hcp (fun t ht=>.inl (.inr ht))⟩
     case measure=>exact meas_two HJL.out
   ·have hje:j=n:=by omega
    have hjj:¬(j:Int)<(n:Int):=by omega
    have hfin:rs.take j=rs:=List.take_of_length_le (by rw[HNN.out];omega)
    have hkept:X.take i=rs.filter (keepR fs lim):=by rw[HDK.out.kept,hfin]
    have hcnt:i=(rs.filter (keepR fs lim)).length:=by have h1:=HDK.out.cnt;rw[hfin] at h1;exact h1
    have hblk:∃ cur,wr.heap[g]? = some (.cells cur 37 (0,0))∧cur.size=rc*6∧n≤rc:=by
     rcases HOX.out.2 with ⟨hv,_⟩ | ⟨g',cap',cur',hv',_,hg',hle,_,hcs,_⟩
     ·cases hv
     ·obtain⟨ha,hn2,hc2⟩:=Value.slice.inj hv'
      obtain rfl:g=g':=by have:=Option.some.inj ha;exact (Addr.mk.inj this).1
      subst hc2;exact⟨cur',hg',hcs,by rw[hn2];exact hle⟩
    obtain⟨cur,hcur,hcs,hnc⟩:=hblk
    have hmul:i*6+(n-i)*6≤rc*6:=by omega
    obtain⟨vs,hvl,hcl⟩:=clear_recs (w:=wr) (g:=g) (o:=i*6) (n:=n-i) (c:=rc-i) hcur (by rw[hcs];exact hmul) (by omega)
    have hown:=HOX.out.cleared hcur (i:=i) (by rw[HXL.out];omega) vs (by rw[hvl,hcs];exact hmul)
    have hsc:=setRow_chg wr g (cur.toList.take (i*6)++vs++cur.toList.drop (i*6+vs.length)).toArray
    rw[hkept] at hown;have hgc:=HGW.out.nil hsc (fun t ht e=>by rcases ht with rfl | rfl | rfl | rfl | rfl<;>first | exact HNG.out.1 e.symm | exact HNG.out.2.1 e.symm | exact HNG.out.2.2.1 e.symm | exact HNG.out.2.2.2.1 e.symm | exact HNG.out.2.2.2.2 e.symm)
    have HOWN:=Lib.hid hown
    have HGC:=Lib.hid hgc
    have HSC:=Lib.hid hsc
    have HCN:=Lib.hid hcnt
    have HJE:=Lib.hid hje
    have hin:i≤n:=by omega
    have hini:(i:Int)≤(n:Int):=by omega
    have hi0':(0:Int)≤(i:Int):=by omega
    have hirc:¬rc=i:=by omega
    have hirl:(i:Int)≤(rc:Int):=by omega
    generalize wr.setRow g (cur.toList.take (i*6)++vs++cur.toList.drop (i*6+vs.length)).toArray=w9 at *;clear hown hgc hsc hfin hkept hcnt hcur hcs hnc hmul hvl hjl hje
    go_wp2_with fail;go_ret;rw[←HCN.out];refine⟨rfl,HOWN.out,?_,(HC.out.trans HSC.out (fun t ht=>.inl (.inr ht))).weak (fun t ht=>.inl (ht.imp id (fun e=>⟨HR0.out,by rw[e];rfl⟩)))⟩
    have h1:=HGC.out
    rw[HJE.out] at h1;rw[HNN.out];exact h1
section
variable {w:World} {p l:Nat} {sv:Value} {ss:List (Nat×Value)} {g:Lg}
theorem LgT.lastSeg (h:LgT w p l sv ss g)(hne:0<ss.length):g.last=g.segs[g.segs.length-1]'(by have:=h.len;omega):=by
 unfold Lg.last;rw[List.getElem?_eq_getElem (by have:=h.len;omega)]
 rfl
theorem llast_any (h:LgT w p l sv ss g) (hne:0<ss.length) (hl:ss.length≤100000) :
  Calls Tryz.prog 55 #[.pointer (some ⟨l,0,none⟩)] w fun e w'=>e = .returned (.pointer (some ⟨(ss[ss.length-1]'(by omega)).1,0,none⟩))∧Chg Nil w w':=by
 have c3:=h.c.cell (j:=3) rfl
 obtain⟨a,cap,hv,_,hcell⟩:=h.o.val
 rw[List.length_map] at hv;subst hv;obtain⟨b,rfl,hz⟩:=hcell (ss.length-1) (by rw[List.length_map];omega)
 rw[List.getElem_map] at hz;obtain⟨q,hq⟩:∃ q,(ss[ss.length-1]'(by omega)).1=q:=⟨_,rfl⟩
 rw[hq] at hz ⊢
 have hk0:(1:Int)≤(ss.length:Int):=by omega
 have hk1:(ss.length:Int)-1<(ss.length:Int):=by omega
 clear h hcell hq hne;generalize ss.length=m at *;go_enter Tryz.func55,Tryz.ntmps55
 go_upto_region 1 with fail;refine wp_region_mono _ (Chg Nil) (by kernel_rfl) (fun _ _ _ h k=>h.trans k (fun _ h=>h.elim)) [[],[0],[1],[2],[],[4],[5],[6],[7],[8],[3,9],[10],[11]] rfl (by kernel_rfl) (Chg.refl _ _).drew ?_
 iterate 3 ((with_reducible apply Walk.eq);case h=>(intro w2 hw2 N hN;simp only[depM];go_simp;(try go_bits);with_reducible exact hN _ (Chg.refl _ _)))
 ((with_reducible apply Walk.eq);case h=>(intro w2 hw2 N hN;have hq:=hw2.cell c3 (fun h=>h);simp only[depM];go_simp;with_reducible exact hN _ (Chg.refl _ _)))
 iterate 3 ((with_reducible apply Walk.eq);case h=>(intro w2 hw2 N hN;simp only[depM];go_simp;(try go_bits);with_reducible exact hN _ (Chg.refl _ _)))
 ((with_reducible apply Walk.eq);case h=>(intro w2 hw2 N hN;have hq:=hw2.cell c3 (fun h=>h);simp only[depM];go_simp;with_reducible exact hN _ (Chg.refl _ _)))
 iterate 3 ((with_reducible apply Walk.eq);case h=>(intro w2 hw2 N hN;simp only[depM];go_simp;(try go_bits);with_reducible exact hN _ (Chg.refl _ _)))
 ((with_reducible apply Walk.eq);case h=>(intro w2 hw2 N hN;have hq:=hw2.cell hz (fun h=>h);simp only[depM];go_simp;with_reducible exact hN _ (Chg.refl _ _)))
 ((with_reducible apply Walk.eq);case h=>(intro w2 hw2 N hN;simp only[depM];go_simp;(try go_bits);with_reducible exact hN _ (Chg.refl _ _)))
 intro w6 hw6;simp only[List.nil_append,List.cons_append,Fin]
 go_simp;go_wp2_with fail;go_ret;exact⟨rfl,hw6⟩
theorem lend_any (h:LgT w p l sv ss g) (hne:0<ss.length) (hl:ss.length≤100000) (hpl:g.last.pls.length≤1000000) :
  Calls Tryz.prog 15 #[.pointer (some ⟨l,0,none⟩)] w fun e w'=>e = .returned (.int .i64 g.stop)∧Chg Nil w w':=by
 have HL:=Lib.hid (llast_any h hne hl)
 have hls:=h.lastSeg hne
 have HN:Hid (∀ w',Chg Nil w w'→Calls Tryz.prog 52 #[.pointer (some ⟨(ss[ss.length-1]'(by omega)).1,0,none⟩)] w' fun e w''=>e = .returned (.int .i64 g.stop)∧Chg Nil w' w''):=fun w' hw=>by
  have h1:=(h.chg hw (fun _ _ h=>h) (fun _ _ h=>h)).m (ss.length-1) (by omega)
  have e1:g.segs[ss.length-1]'(by have:=h.len;omega)=g.last:=by rw[hls];congr 1;rw[h.len]
  have h2:=snext_any h1 (by rw[e1];exact hpl)
  rw[e1] at h2;exact h2
 obtain⟨q,hq⟩:∃ q,(ss[ss.length-1]'(by omega)).1=q:=⟨_,rfl⟩
 rw[hq] at HL HN
 clear h hls hpl hq;go_enter Tryz.func15,Tryz.ntmps15
 go_wp2_with fail;refine HL.out.mono ?_
 rintro e w1 ⟨rfl,hc1⟩
 have HN1:=Lib.hid (HN.out w1 hc1)
 have HC1:=Lib.hid hc1
 clear hc1;go_wp2_with fail;refine HN1.out.mono ?_
 rintro e w2 ⟨rfl,hc2⟩
 go_wp2_with fail;go_ret;exact⟨rfl,HC1.out.trans hc2 (fun _ h=>h.elim)⟩
end
theorem LgS.cells {B:Nat→Prop}{w w':World}{p l:Nat}{S:Nat→Prop}{sv:Value}{ss:List (Nat×Value)}{d:Dk}{g g':Lg}(h:LgS B w p l S sv ss d g)(hc:Chg (fun k=>k=l) w w')(hb:Box w' l (g'.cells p sv) 99)(hs:g'.segs=g.segs):LgS B w' p l S sv ss d g':=by
 have hz:=hc.size
 have hl:∀ k,THas ss k→¬k=l:=fun k hk e=>(h.lb l (.inl rfl)).2 (e ▸ hk)
 refine⟨fun k hk=>Nat.lt_of_lt_of_le (h.lo k hk) hz,h.a.chg hc (fun k hk e=>(h.sl k hk).2.1 (.inl e)),hb,ownsRow_chg h.o hc (fun k hk e=>?_),by rw[hs];exact h.len,fun i hi=>?_,
  fun k hk=>⟨(h.sl k hk).1,(h.sl k hk).2.1,(h.sl k hk).2.2.1,Nat.lt_of_lt_of_le (h.sl k hk).2.2.2 hz⟩,h.lb,h.tb,h.apart⟩
 ·have h1:w.heap[l]? = _:=h.c
  rcases h.o.2 with ⟨hv,_⟩ | ⟨b,cap,cur,hv,_,hg,_⟩
  ·rw[hv] at hk;cases hk
  ·rw[hv] at hk;obtain rfl:b=k:=Option.some.inj hk
   rw[e,h1] at hg;exact absurd (Obj.cells.inj (Option.some.inj hg)).2.1 (by decide)
 ·have h1:=(h.m i hi).chg hc (fun k hk=>hl k (THas.of hi hk))
  simp only[hs]
  exact h1
theorem lfail_any {B:Nat→Prop} {w:World} {p l:Nat} {S:Nat→Prop} {sv:Value} {ss:List (Nat×Value)} {d:Dk} {g:Lg} (h:LgS B w p l S sv ss d g) (hG:Handle w) (k:Nat) (hk:k≠0) :
  Calls Tryz.prog 61 #[.pointer (some ⟨l,0,none⟩),.iface 65 (.int .i64 (k:Nat))] w fun e w'=>e = .returned (.iface 65 (.int .i64 (k:Nat)))∧LgS B w' p l S sv ss d (g.fail k)∧Chg (fun k=>k=l) w w':=by
 have HTL:=Lib.hid (tell_errno (k:Nat) w hG)
 have HH:=Lib.hid h
 clear h hG;by_cases h14:k=14
 ·subst h14;go_enter Tryz.func61,Tryz.ntmps61
  go_wp2_with fail;refine HTL.out.mono ?_
  rintro e w1 ⟨rfl,hc1⟩
  have HH1:=Lib.hid (HH.out.nil hc1)
  have HC1:=Lib.hid hc1
  have c6:=HH1.out.c.cell (j:=6) rfl
  have f6:=HH1.out.c.free 6
  clear hc1;go_wp2_with fail;go_ret;have hset:Chg (fun k=>k=l) w1 (w1.setCell ⟨l,6,none⟩ (.bool true)):=(Chg.refl (fun k=>k=l) _).setCell (.inl rfl) _
  exact⟨rfl,HH1.out.cells hset (HH1.out.c.set 6 _) rfl,(HC1.out.weak (fun _ h=>h.elim)).trans hset (fun k hk=>.inl hk)⟩
 ·have hkb:((k:Int)==14)=false:=beq_eq_false_iff_ne.2 (by omega)
  have HK:=Lib.hid h14
  clear h14;go_enter Tryz.func61,Tryz.ntmps61
  go_wp2_with fail;refine HTL.out.mono ?_
  rintro e w1 ⟨rfl,hc1⟩
  have HH1:=Lib.hid (HH.out.nil hc1)
  have HC1:=Lib.hid hc1
  clear hc1;go_wp2_with fail;go_ret;refine⟨rfl,?_,HC1.out.weak (fun _ h=>h.elim)⟩
  unfold Lg.fail;rw[if_neg HK.out]
  exact HH1.out
structure LgN (B:Nat→Prop) (w:World) (ss:List (Nat×Value)) (g:Lg):Prop where
 ne:0<ss.length
 few:ss.length≤100000
 pls:g.last.pls.length≤100000
 size:g.last.size≤1000000000
 name:g.last.name.length≤1000
 hand:Handle w
 hb:B 0
theorem LgN.off {B:Nat→Prop}{w w':World}{ss:List (Nat×Value)}{g:Lg}(h:LgN B w ss g)(hc:Chg (Off B) w w'):LgN B w' ss g:=⟨h.ne,h.few,h.pls,h.size,h.name,h.hand.chg hc (fun hn=>hn h.hb),h.hb⟩
theorem offI {B:Nat→Prop}{l:Nat}{sv:Value}{ss:List (Nat×Value)}{i:Nat}{w w':World}(h:Chg (Off (BofI B l sv ss i)) w w'):Chg (Off B) w w':=h.weak fun k hk=>.inl fun hb=>hk (.inl hb)
theorem LgS.offL {B:Nat→Prop}{w w':World}{p l:Nat}{S:Nat→Prop}{sv:Value}{ss:List (Nat×Value)}{d:Dk}{g:Lg}(h:LgS B w p l S sv ss d g)(hc:Chg (fun k=>k=l) w w'):Chg (Off B) w w':=hc.weak fun k hk=>.inl fun hb=>(h.lb l (.inl rfl)).1 (hk ▸ hb)
theorem set_same {α:Type} (ss:List α) (i:Nat)(hi:i<ss.length):ss.set i ss[i]=ss:=List.set_getElem_self hi
theorem lflush_any {B:Nat→Prop} {w:World} {p l:Nat} {S:Nat→Prop} {sv:Value} {ss:List (Nat×Value)} {d:Dk} {g:Lg} (h:LgS B w p l S sv ss d g) (hn:LgN B w ss g) :
  Calls Tryz.prog 32 #[.pointer (some ⟨l,0,none⟩)] w fun e w'=>e = .returned (errD (flushLg d g).1)∧(∃ S',LgS B w' p l S' sv ss (flushLg d g).2.1 (flushLg d g).2.2)∧Chg (Off B) w w':=by
 have c6:=h.c.cell (j:=6) rfl
 have HH:=Lib.hid h
 have HN:=Lib.hid hn
 by_cases hd:g.down=true
 ·have hF:flushLg d g=(6,d,g):=if_pos hd
  have HF:=Lib.hid hF
  rw[hd] at c6;clear h hn hF hd;go_enter Tryz.func32,Tryz.ntmps32
  go_wp2_with fail;go_ret;rw[HF.out];exact⟨rfl,⟨S,HH.out⟩,Chg.refl _ _⟩
 have hdf:g.down=false:=by simpa using hd
 rw[hdf] at c6;have HL:=Lib.hid (llast_any h.t hn.ne hn.few)
 have hle:=h.len
 have hne:=hn.ne
 have hls:=h.t.lastSeg hne
 have e1:g.segs[ss.length-1]'(by omega)=g.last:=by rw[hls];congr 1;rw[hle]
 have HSY:Hid (∀ w',Chg Nil w w'→Calls Tryz.prog 56 #[.pointer (some ⟨(ss[ss.length-1]'(by omega)).1,0,none⟩)] w' fun e w''=>e = .returned (errD (d.sync g.last.name).1)∧(∃ S',LgS B w'' p l S' sv ss (d.sync g.last.name).2 g)∧Chg (Off B) w' w''):=fun w' hw=>by
  have h1:=(h.nil hw).seg (ss.length-1) (by omega)
  have h2:=ssync_any h1 (by rw[e1];exact hn.name)
  rw[e1] at h2;refine h2.mono ?_
  rintro e w'' ⟨h3,⟨S',h4⟩,h5⟩
  refine⟨h3,⟨S',?_⟩,offI h5⟩
  have h6:=(h.nil hw).back (by omega) h4 h5
  have e2:ss.set (ss.length-1) ((ss[ss.length-1]'(by omega)).1,(ss[ss.length-1]'(by omega)).2)=ss:=set_same ss _ (by omega)
  have e3:g.segs.set (ss.length-1) g.last=g.segs:=by rw[←e1];exact set_same g.segs _ (by omega)
  rw[e2,e3] at h6;exact h6
 obtain⟨q,hq⟩:∃ q,(ss[ss.length-1]'(by omega)).1=q:=⟨_,rfl⟩
 rw[hq] at HL HSY
 obtain⟨R,hR⟩:∃ R,d.sync g.last.name=R:=⟨_,rfl⟩
 rw[hR] at HSY;have HFL:Hid (flushLg d g=if R.1=0 then (0,R.2,{ g with safe:=g.stop }) else (R.1,R.2,g.fail R.1)):=by unfold Hid flushLg;rw[if_neg hd,hR]
 clear h hn hd hdf hle hne hls e1 hq hR;go_enter Tryz.func32,Tryz.ntmps32
 go_wp2_with fail;refine HL.out.mono ?_
 rintro e w1 ⟨rfl,hc1⟩
 have HS1:=Lib.hid (HSY.out w1 hc1)
 have HC1:=Lib.hid hc1
 clear hc1 c6 HL HSY;go_wp2_with fail;refine HS1.out.mono ?_
 rintro e w2 ⟨rfl,hs2,hc2⟩
 have HS2:=Lib.hid hs2
 have HC2:Hid (Chg (Off B) w w2):=(HC1.out.weak (fun _ h=>h.elim)).trans hc2 (fun k hk=>.inl hk)
 have HN2:=Lib.hid (HN.out.off HC2.out)
 clear hs2 hc2 HS1;by_cases hk:R.1=0
 ·have hz:errD R.1 = .nilIface:=by rw[hk];rfl
  rw[hz];have HF:Hid (flushLg d g=(0,R.2,{ g with safe:=g.stop })):=by unfold Hid;rw[HFL.out,if_pos hk]
  obtain⟨S2,hs2⟩:=HS2.out
  have HEN:=Lib.hid (lend_any hs2.t HN2.out.ne HN2.out.few (Nat.le_trans HN2.out.pls (by omega)))
  have HS3:=Lib.hid hs2
  clear hk hz hs2;go_wp2_with fail;refine HEN.out.mono ?_
  rintro e w3 ⟨rfl,hc3⟩
  have HS4:=Lib.hid (HS3.out.nil hc3)
  have HC3:Hid (Chg (Off B) w w3):=HC2.out.trans hc3 (fun _ h=>h.elim)
  have c5:=HS4.out.c.cell (j:=5) rfl
  have f5:=HS4.out.c.free 5
  clear hc3;go_wp2_with fail;go_ret;rw[HF.out];have hset:Chg (fun k=>k=l) w3 (w3.setCell ⟨l,5,none⟩ (.int .i64 g.stop)):=(Chg.refl (fun k=>k=l) _).setCell (.inl rfl) _
  exact⟨rfl,⟨S2,HS4.out.cells hset (HS4.out.c.set 5 _) rfl⟩,HC3.out.trans (HS4.out.offL hset) (fun k hk=>.inl hk)⟩
 ·have hz:=errD_ne hk
  rw[hz];have HF:Hid (flushLg d g=(R.1,R.2,g.fail R.1)):=by unfold Hid;rw[HFL.out,if_neg hk]
  have HK:=Lib.hid hk
  obtain⟨S2,hs2⟩:=HS2.out
  have HFA:=Lib.hid (lfail_any hs2 HN2.out.hand R.1 hk)
  have HS3:=Lib.hid hs2
  clear hk hz hs2;generalize hrk:R.1=rk at *;go_wp2_with fail;refine HFA.out.mono ?_
  rintro e w3 ⟨rfl,hs3,hc3⟩
  have HS4:=Lib.hid hs3
  have HC3:Hid (Chg (Off B) w w3):=HC2.out.trans (HS3.out.offL hc3) (fun k hk=>.inl hk)
  clear hs3 hc3;go_wp2_with fail;go_ret;rw[HF.out];exact⟨by show _=Ending.returned (errD rk);rw[errD_ne HK.out];rfl,⟨S2,HS4.out⟩,HC3.out⟩
theorem LgS.disk {B:Nat→Prop}{w w':World}{p l:Nat}{S S':Nat→Prop}{sv:Value}{ss:List (Nat×Value)}{d d':Dk}{g:Lg}(h:LgS B w p l S sv ss d g)(hd:DsS (BofA B l sv ss) w' p S' d')(hc:Chg (Off (BofA B l sv ss)) w w'):LgS B w' p l S' sv ss d' g:=by
 have hz:=hc.size
 refine⟨fun k hk=>Nat.lt_of_lt_of_le (h.lo k hk) hz,hd.a,h.c.chg hc (fun hn=>hn (.inr (.inl (.inl rfl)))),ownsRow_chg h.o hc (fun k hk hn=>hn (.inr (.inl (.inr hk)))),h.len,fun i hi=>(h.m i hi).chg hc (fun k hk hn=>hn (.inr (.inr (THas.of hi hk)))),
  fun k hk=>⟨fun hb=>(hd.sl k hk).1 (.inl hb),fun hb=>(hd.sl k hk).1 (.inr (.inl hb)),fun hb=>(hd.sl k hk).1 (.inr (.inr hb)),(hd.sl k hk).2⟩,h.lb,h.tb,h.apart⟩
theorem LgS.more {B:Nat→Prop}{w w1 w':World}{p l s:Nat}{S:Nat→Prop}{sv sv':Value}{ss:List (Nat×Value)}{d:Dk}{g:Lg}{sg:Sg}(h:LgS B w p l S sv ss d g)(hs:SgS (BofA B l sv ss) w p s S (.slice none 0 0) d sg)
  (ho:OwnT w1 sv' (ss.map (·.1)++[s]))(hc1:Chg (fun k=>sv.ownBlock=some k) w w1)(hsv:∀ k,sv'.ownBlock=some k→sv.ownBlock=some k∨w.heap.size≤k)(hc2:Chg (fun k=>k=l) w1 w')(hb:Box w' l (({ g with segs:=g.segs++[sg] }:Lg).cells p sv') 99) :
  LgS B w' p l S sv' (ss++[(s,.slice none 0 0)]) d { g with segs:=g.segs++[sg] }:=by
 have hc:Chg (fun k=>LHas l sv k) w w':=(hc1.weak fun k hk=>.inl (.inr hk)).trans hc2 (fun k hk=>.inl (.inl hk))
 have hz:=hc.size
 have hlt:=h.lt
 have hsl:s<w.heap.size:=hs.m.lt s (.inl rfl)
 have hsB:∀ k,SHas s (.slice none 0 0) k→k=s:=fun k hk=>hk.elim id (fun e=>by cases e)
 have hsn:¬BofA B l sv ss s:=hs.ml s (.inl rfl)
 have hT:∀ k,THas (ss++[(s,.slice none 0 0)]) k→THas ss k∨k=s:=by
  rintro k ⟨x,hx,hk⟩
  rcases List.mem_append.1 hx with hx | hx
  ·exact .inl ⟨x,hx,hk⟩
  ·rw[List.mem_singleton.1 hx] at hk;exact .inr (hsB k hk)
 have hTlt:∀ k,THas (ss++[(s,.slice none 0 0)]) k→k<w.heap.size:=fun k hk=>(hT k hk).elim (hlt.2 k) (fun e=>e ▸ hsl)
 have hL:∀ k,LHas l sv' k→LHas l sv k∨w.heap.size≤k:=by
  rintro k (hk | hk)
  ·exact .inl (.inl hk)
  ·exact (hsv k hk).imp .inr id
 have hslv:sv'.ownBlock≠some l:=fun e=>by
  have h1:w'.heap[l]? = _:=hb
  have hll:=hlt.1 l (.inl rfl)
  rcases hsv l e with h2 | h2
  ·have h3:w.heap[l]? = _:=h.c
   rcases h.o.2 with ⟨hv,_⟩ | ⟨b,cap,cur,hv,_,hg,_⟩
   ·rw[hv] at h2;cases h2
   ·rw[hv] at h2;obtain rfl:b=l:=Option.some.inj h2
    rw[h3] at hg;exact absurd (Obj.cells.inj (Option.some.inj hg)).2.1 (by decide)
  ·omega
 refine⟨fun k hk=>Nat.lt_of_lt_of_le (h.lo k hk) hz,hs.a.chg hc (fun k hk hl=>(h.sl k hk).2.1 hl),hb,?_,?_,?_,?_,?_,?_,?_⟩
 ·rw[List.map_append,List.map_singleton];exact ownsRow_chg ho hc2 (fun k hk e=>hslv (e ▸ hk))
 ·rw[List.length_append,List.length_append,h.len];rfl
 ·intro i hi;rw[List.length_append,List.length_singleton] at hi;have hle:=h.len
  by_cases hil:i<ss.length
  ·have h1:=(h.m i hil).chg hc (fun k hk hl=>(h.lb k hl).2 (THas.of hil hk))
   simp only[List.getElem_append_left hil,List.getElem_append_left (show i<g.segs.length by omega)]
   exact h1
  ·obtain rfl:i=ss.length:=by omega
   have h1:=hs.m.chg hc (fun k hk hl=>hsn (by rw[←hsB k hk];exact .inr (.inl hl)))
   have e1:(ss++[(s,Value.slice none 0 0)])[ss.length]'(by simp)=(s,.slice none 0 0):=by simp
   have e2:(g.segs++[sg])[ss.length]'(by simp;omega)=sg:=by simp[hle]
   simp only[e1,e2]
   exact h1
 ·intro k hk;have h1:=h.sl k hk
  refine⟨h1.1,fun hl=>?_,fun ht=>?_,Nat.lt_of_lt_of_le h1.2.2.2 hz⟩
  ·rcases hL k hl with h2 | h2
   ·exact h1.2.1 h2
   ·have:=h1.2.2.2;omega
  ·rcases hT k ht with h2 | h2
   ·exact h1.2.2.1 h2
   ·exact hs.ap s (.inl rfl) (h2 ▸ hk)
 ·intro k hk;rcases hL k hk with h1 | h1
  ·refine⟨(h.lb k h1).1,fun ht=>?_⟩
   rcases hT k ht with h2 | h2
   ·exact (h.lb k h1).2 h2
   ·exact hsn (.inr (.inl (h2 ▸ h1)))
  ·exact⟨fun hbk=>by have:=h.lo k hbk;omega,fun ht=>by have:=hTlt k ht;omega⟩
 ·intro k hk;rcases hT k hk with h1 | h1
  ·exact h.tb k h1
  ·exact fun hbk=>hsn (.inl (h1 ▸ hbk))
 ·intro i j hi hj hij k hk hk2;rw[List.length_append,List.length_singleton] at hi hj
  by_cases h1:i<ss.length
  ·rw[List.getElem_append_left h1] at hk
   by_cases h2:j<ss.length
   ·rw[List.getElem_append_left h2] at hk2
    exact h.apart i j h1 h2 hij k hk hk2
   ·obtain rfl:j=ss.length:=by omega
    have e1:(ss++[(s,Value.slice none 0 0)])[ss.length]'(by simp)=(s,.slice none 0 0):=by simp
    rw[e1] at hk2;exact hsn (.inr (.inr (hsB k hk2 ▸ THas.of h1 hk)))
  ·obtain rfl:i=ss.length:=by omega
   have e1:(ss++[(s,Value.slice none 0 0)])[ss.length]'(by simp)=(s,.slice none 0 0):=by simp
   rw[e1] at hk;have h2:j<ss.length:=by omega
   rw[List.getElem_append_left h2] at hk2
   exact hsn (.inr (.inr (hsB k hk ▸ THas.of h2 hk2)))
end Go.Proofs.YtdjmifaidgbbaaaGreatDoor
namespace Go.Proofs.YtdjmifaidgbbaaaGreatDoor.Ch
section
variable {P:Program} {ops:Array Oper} {R:World→World→Prop} {C:List Nat} {F:List Value→World→Prop} {w0:World} {Q:Exit→Act→World→Prop} {a0:Act}
theorem Walk.chainP (m:Nat) (φ:Value→World→Prop)(hk:∀ v w w',φ v w→R w w'→φ v w') {js:List Nat}{E:List (List Nat)}{o:Oper}{os:List Oper}{specs:List Spec}(hd:o.dst.isSome=true)(hi:C[m]? = some specs.length)
  (h:∀ w,R w0 w→∀ vs:List Value,vs.length=m→F vs w→∀ N:Value→World→Prop,(∀ v w',φ v w'→R w w'→F (vs++[v]) w'→N v w')→Ob P ops o N w (depsOf ops (chained C vs specs) js) a0)
  (hrest:Walk P ops R C F w0 Q a0 E os (specs++[Sum.inr (Sum.inl φ)])):Walk P ops R C F w0 Q a0 (js::E) (o::os) specs:=
 ⟨.inr (.inl φ),⟨hk,fun e=>by rw[e] at hd;cases hd⟩,.inr (.inr ⟨m,hi,rfl,fun w hw vs hv hF N hN=>h w hw vs hv hF N (fun v w' hp hr hf=>hN v w' hp hr (by rw[show valIn o v=v by unfold valIn;cases ho:o.dst with | some _=>rfl | none=>rw[ho] at hd;cases hd];exact hf))⟩),hrest⟩
end
end Go.Proofs.YtdjmifaidgbbaaaGreatDoor.Ch
