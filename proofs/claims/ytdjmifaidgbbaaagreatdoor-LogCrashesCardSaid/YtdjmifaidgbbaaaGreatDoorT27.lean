/-
  A log is read. (Of the logs' seat.)
-/
import Derived.Test.YtdjmifaidgbbaaaGreatDoorT24
set_option linter.unusedVariables false
set_option linter.unusedSimpArgs false
set_option maxHeartbeats 0
set_option maxRecDepth 200000
namespace Go.Proofs.YtdjmifaidgbbaaaGreatDoor
open Go.RowKit Go.Maps
theorem LgOk.few {d:Dk}{g:Lg}{xs:List SgB}(h:LgOk d g xs):∀ x∈xs,x.2.length≤99999∧x.1.pls.length=x.2.length:=fun x hx=>by
 obtain⟨sf,hf⟩:=(h.each x hx).fl
 have h1:=batBs_len (h.of x hx).ok
 have h2:=used_le hf
 have h3:=h.ok.fits
 have h4:=h.ok.room
 have h2:(batBs x.2).length≤d.used:=h2
 exact⟨by omega,by rw[(h.of x hx).pls,plsOf_length]⟩
theorem lined_at:∀ {xs:List SgB},lined xs→∀ (k:Nat)(h:k+1<xs.length),xs[k+1].1.base=(xs[k]'(by omega)).1.next∧(xs[k]'(by omega)).2≠[]
 | [],_,k,h=>by simp at h
 | [x],_,k,h=>by simp at h
 | x::y::r,hl,0,h=>⟨hl.1,hl.2.1⟩
 | x::y::r,hl,k+1,h=>lined_at (xs:=y::r) hl.2.2 k (by simpa using h)
theorem LgOk.next_le {d:Dk}{g:Lg}{xs:List SgB}(h:LgOk d g xs):∀ x∈xs,x.1.next≤g.stop:=by
 obtain⟨ys,z,rfl,hlast,_⟩:=h.lastAt
 intro x hx;have hz:=(h.of z (by simp)).base_next
 unfold Lg.stop;rw[hlast];rcases List.mem_append.1 hx with hx | hx
 ·have:=(lined_before h.of h.line x hx).1
  omega
 ·rw[List.mem_singleton.1 hx]
  exact Int.le_refl _
theorem lined_take:∀ {xs:List SgB},(∀ z∈xs,SgOf z.1 z.2)→lined xs→∀ (k:Nat)(h:k<xs.length),∀ y∈xs.take k,y.1.next≤xs[k].1.base
 | [],_,_,k,h,y,hy=>by simp at h
 | x::r,hof,hl,0,h,y,hy=>by simp at hy
 | [x],hof,hl,k+1,h,y,hy=>by simp at h
 | x::z::r,hof,hl,k+1,h,y,hy=>by
  have ih:=lined_take (xs:=z::r) (fun a ha=>hof a (List.mem_cons_of_mem _ ha)) hl.2.2 k (by simpa using h)
  rw[List.take_succ_cons] at hy;rcases List.mem_cons.1 hy with rfl | hy
  ·cases k with
   | zero=>show y.1.next≤z.1.base;rw[hl.1];exact Int.le_refl _
   | succ k=>
    have h1:=ih z (by simp)
    have h2:=(hof z (by simp)).base_next
    have h3:=hl.1
    have h4:((y::z::r)[k+1+1]'h).1.base=((z::r)[k+1]'(by simpa using h)).1.base:=rfl
    rw[h4];omega
  ·exact ih y hy
theorem OwnR.chg {S:Nat→Prop}{w w':World}{e:TypeId}{v:Value}{rs:List Rec}(h:OwnR e w v rs)(hc:Chg S w w')(hn:∀ k,v.ownBlock=some k→¬S k):OwnR e w' v rs:=ownsRow_chg h hc hn
def ReadV (n0:Nat) (w':World) (g:Lg) (xs:List SgB) (frm most:Int) (e:Ending):Prop:=
 ((frm<g.start∨g.stop<frm)∧e = .returned (.tuple #[.slice none 0 0,errD 2]))∨
 (g.start≤frm∧frm≤g.stop∧∃ v out,e = .returned (.tuple #[v,.nilIface])∧OwnR 37 w' v out∧(∀ k,v.ownBlock=some k→n0≤k)∧Reads most frm xs out)
theorem recsFrom_snoc (frm:Int) (l:List Bt) {j:Nat}(hj:j<l.length):recsFrom frm (l.take (j+1))=recsFrom frm (l.take j)++(l[j].rs).filter (ge frm):=by
 rw[List.take_succ_eq_append_getElem hj,recsFrom_append]
 congr 1
 unfold recsFrom recsOf;simp
theorem filter_snoc (p:Rec→Bool) (l:List Rec) {j:Nat}(hj:j<l.length):(l.take (j+1)).filter p=(l.take j).filter p++(if p l[j]=true then [l[j]] else []):=by
 rw[List.take_succ_eq_append_getElem hj,List.filter_append]
 congr 1
 by_cases h:p l[j]=true
 ·rw[if_pos h,List.filter_cons_of_pos h];rfl
 ·rw[if_neg h,List.filter_cons_of_neg h];rfl
theorem readL_len (l:List Bt) (frm most:Int):(readL l frm most).length≤l.length:=by
 have h1:=readGo_len true most (l.dropWhile fun b=>decide (b.en≤frm))
 have h2:=(List.dropWhile_sublist (fun b:Bt=>decide (b.en≤frm)) (l:=l)).length_le
 unfold readL;omega
theorem readL_mem {l:List Bt}{frm most:Int}:∀ b∈readL l frm most,b∈l:=fun b hb=>
 (List.dropWhile_sublist (fun b:Bt=>decide (b.en≤frm)) (l:=l)).subset (readGo_sub _ _ _ b hb)
theorem recsFrom_le (frm:Int) {l:List Bt}(hok:∀ b∈l,b.Ok):(recsFrom frm l).length≤50*l.length:=Nat.le_trans (List.length_filter_le _ _) (recsOf_len hok)
theorem lastEnd_getLast {n:Int}{l:List Bt}{k:Nat}(h:l.length=k+1):lastEnd n l=(l[k]'(by omega)).en:=by
 rcases List.eq_nil_or_concat l with h0 | ⟨m,b,rfl⟩
 ·rw[h0] at h;simp at h
 ·simp only[List.concat_eq_append] at h ⊢
  rw[lastEnd_snoc];have:k=m.length:=by simpa using h.symm
  subst this;simp
theorem lread_go (m:Nat):∀ {B:Nat→Prop} {w:World} {p l:Nat} {S:Nat→Prop} {sv:Value} {ss:List (Nat×Value)} {d:Dk} {g:Lg} {xs:List SgB} (h:LgS B w p l S sv ss d g) (hk:LgOk d g xs) (hdir:g.dir.length≤100) (hfew:ss.length≤100000) (frm most:Int) (hm:(g.stop+1-frm).toNat≤m),
  Calls Tryz.prog 34 #[.pointer (some ⟨l,0,none⟩),.int .i64 frm,.int .i64 most] w fun e w'=>ReadV w.heap.size w' g xs frm most e∧Chg Nil w w':=by
 induction m with
 | zero=>
  intro B w p l S sv ss d g xs h hk hdir hfew frm most hm;have c4:=h.c.cell (j:=4) rfl
  have hlen:=h.len
  have hpos:=hk.pos
  have hln:=hk.len
  have hpl:g.last.pls.length≤1000000:=by
   obtain⟨ys,z,hz,hlast,_⟩:=hk.lastAt
   have:=hk.few z (by rw[hz];simp)
   rw[hlast];omega
  have HEN:=Lib.hid (lend_any h.t (by omega) hfew hpl)
  have h1:¬frm<g.start:=by have:=hk.hi;omega
  have h2:g.stop<frm:=by omega
  have H2:=Lib.hid h2
  clear h hk hdir hfew hm hlen hpos hln hpl;go_enter Tryz.func34,Tryz.ntmps34
  go_wp2_with fail;refine HEN.out.mono ?_
  rintro e w1 ⟨rfl,hc1⟩
  have HC1:=Lib.hid hc1
  clear hc1 c4;go_wp2_with fail;go_ret2;exact⟨.inl ⟨.inr H2.out,rfl⟩,HC1.out⟩
 | succ m ih=>
  intro B w p l S sv ss d g xs h hk hdir hfew frm most hm;have c4:=h.c.cell (j:=4) rfl
  have c3:=h.c.cell (j:=3) rfl
  have hlen:=h.len
  have hpos:=hk.pos
  have hln:=hk.len
  have hpl:g.last.pls.length≤1000000:=by
   obtain⟨ys,z,hz,hlast,_⟩:=hk.lastAt
   have:=hk.few z (by rw[hz];simp)
   rw[hlast];omega
  by_cases h1:frm<g.start
  ·have H1:=Lib.hid h1
   clear h hk hdir hfew hm hlen hpos hln hpl ih c3;go_enter Tryz.func34,Tryz.ntmps34
   go_wp2_with fail;go_ret2;exact⟨.inl ⟨.inl H1.out,rfl⟩,Chg.refl _ _⟩
  have HEN:=Lib.hid (lend_any h.t (by omega) hfew hpl)
  by_cases h2:g.stop<frm
  ·have H2:=Lib.hid h2
   clear h hk hdir hfew hm hlen hpos hln hpl ih c3;go_enter Tryz.func34,Tryz.ntmps34
   go_wp2_with fail;refine HEN.out.mono ?_
   rintro e w1 ⟨rfl,hc1⟩
   have HC1:=Lib.hid hc1
   clear hc1 c4;go_wp2_with fail;go_ret2;exact⟨.inl ⟨.inr H2.out,rfl⟩,HC1.out⟩
  have hxl:ss.length=xs.length:=by rw[h.len,hk.len]
  have HRNG:Hid (g.start≤frm∧frm≤g.stop):=⟨by omega,by omega⟩
  have HOK:=Lib.hid hk
  have HXL:=Lib.hid hxl
  have HM:=Lib.hid hm
  obtain⟨a,cap,hv,hcap,hcell⟩:=h.o.val
  rw[List.length_map] at hv;have HCELL:Hid (∀ i (hi:i<ss.length),∃ b,a=some ⟨b,0,none⟩∧w.cell? ⟨b,i,none⟩=some (.pointer (some ⟨ss[i].1,0,none⟩))):=fun i hi=>by
   obtain⟨b,hb,hz⟩:=hcell i (by rw[List.length_map];exact hi)
   rw[List.getElem_map] at hz;exact⟨b,hb,hz⟩
  have HIH:Hid (∀ w',Chg Nil w w'→∀ f,frm<f→Calls Tryz.prog 34 #[.pointer (some ⟨l,0,none⟩),.int .i64 f,.int .i64 most] w' fun e w''=>ReadV w'.heap.size w'' g xs f most e∧Chg Nil w' w''):=fun w' hw f hf=>ih (h.nil hw) hk hdir hfew f most (by omega)
  have hsi:∀ i (hi:i<ss.length) (x:SgB),xs[i]? = some x→g.segs[i]'(h.len ▸ hi)=x.1:=fun i hi x hx=>by
   have:g.segs[i]? = (xs.map (·.1))[i]?:=by rw[hk.segs]
   rw[List.getElem?_eq_getElem (by rw[←h.len];exact hi),List.getElem?_map,hx] at this
   exact Option.some.inj this
  have HNX:Hid (∀ i (hi:i<ss.length) (x:SgB),xs[i]? = some x→∀ w',Chg Nil w w'→Calls Tryz.prog 52 #[.pointer (some ⟨ss[i].1,0,none⟩)] w' fun e w''=>e = .returned (.int .i64 x.1.next)∧Chg Nil w' w''):=fun i hi x hx w' hw=>by
   have h1:=(h.nil hw).m i hi
   rw[hsi i hi x hx] at h1
   have h2:=hk.few x (List.mem_of_getElem? hx)
   exact snext_any h1 (by omega)
  have HRD:Hid (∀ i (hi:i<ss.length) (x:SgB),xs[i]? = some x→∀ w',Chg Nil w w'→∀ f,Calls Tryz.prog 65 #[.pointer (some ⟨ss[i].1,0,none⟩),.int .i64 f,.int .i64 most] w' fun e w''=>∃ u,e = .returned (.tuple #[u,.nilIface])∧ReadAt w'.heap.size w'' u (readL x.2 f most)∧Chg Nil w' w''):=fun i hi x hx w' hw f=>by
   have h1:=(h.nil hw).seg i hi
   rw[hsi i hi x hx] at h1
   have h2:=hk.each x (List.mem_of_getElem? hx)
   obtain⟨sf,hf⟩:=h2.fl
   refine sread_any h1 ?_ _ h2.of sf hf f most
   rw[h2.nm];exact segName_len ⟨g.dir.toArray⟩ _ (by show g.dir.toArray.size≤100;simp;exact hdir) (by have:=h2.hi;omega)
  have hkl:ss.length≤100000:=hfew
  subst hv;obtain⟨n,hn⟩:∃ n,ss.length=n:=⟨_,rfl⟩
  have HNN:=Lib.hid hn
  rw[hn] at c3 hkl
  clear h hk hdir hfew hm hlen hpos hln hpl ih hxl hcap hcell hsi hn;obtain⟨st,hst⟩:∃ st,g.start=st:=⟨_,rfl⟩
  obtain⟨sp,hsp⟩:∃ sp,g.stop=sp:=⟨_,rfl⟩
  rw[hst] at c4 h1
  rw[hsp] at HEN h2
  have HST:=Lib.hid hst
  have HSP:=Lib.hid hsp
  clear hst hsp;go_enter Tryz.func34,Tryz.ntmps34
  go_wp2_with fail;refine HEN.out.mono ?_
  rintro e w1 ⟨rfl,hc1⟩
  have HC1:=Lib.hid hc1
  have c3:=hc1.cell c3 (fun h=>h)
  clear hc1 c4;go_wp2_with fail;clear c3 h1 h2;go_loopw [35,1] (fun iv fv wr=>∃ (wq:World) (i:Nat) (f:Int),wq=wr∧i≤n∧iv = .int .i64 i∧fv = .int .i64 f∧Hid (frm≤f∧f≤sp)∧Hid (∀ h:i<xs.length,xs[i].1.base≤f)∧Hid (∀ out,Reads most f (xs.drop i) out→Reads most frm xs out)∧Chg Nil w wr) (fun iv _ _=>n-(RowKit.intOf iv).toNat)
  case atStart=>exact⟨_,0,frm,rfl,by omega,rfl,rfl,⟨Int.le_refl _,by have:=HRNG.out;have:=HSP.out;omega⟩,fun h=>by
   have h1:=HOK.out.lo xs[0] (by rw[List.head?_eq_getElem?,List.getElem?_eq_getElem h])
   have:=HRNG.out.1
   omega,fun out h=>h,HC1.out⟩
  case round=>
   obtain⟨wr,i,f,rfl,hi,rfl,rfl,hfr,hfb,hfo,hc⟩:=hrel
   have HC:=Lib.hid hc
   have HFR:Hid _:=hfr
   have HFB:Hid _:=hfb
   have HFO:Hid _:=hfo
   clear hc hfr hfb hfo;by_cases hin:i<n
   ·have hii:(i:Int)<(n:Int):=by omega
    have hil:i<ss.length:=by rw[HNN.out];exact hin
    have hix:i<xs.length:=by have:=HXL.out;omega
    obtain⟨b,rfl,hz⟩:=HCELL.out i hil
    have z0:=HC.out.cell hz (fun h=>h)
    obtain⟨x,hxx⟩:∃ x,xs[i]? = some x:=⟨xs[i],List.getElem?_eq_getElem hix⟩
    have hxm:x∈xs:=List.mem_of_getElem? hxx
    have HNX1:=Lib.hid (HNX.out i hil x hxx wr HC.out)
    have HNX2:=Lib.hid (HNX.out i hil x hxx)
    have HRD1:=Lib.hid (HRD.out i hil x hxx)
    have HIN:=Lib.hid hin
    obtain⟨q,hq⟩:∃ q,ss[i].1=q:=⟨_,rfl⟩
    rw[hq] at z0 HNX1 HNX2 HRD1
    have HXI:=Lib.hid (HOK.out.each x hxm)
    have HXN:Hid (x.1.next≤sp):=by have:=HOK.out.next_le x hxm;have:=HSP.out;unfold Hid;omega
    have hxe:xs[i]=x:=by rw[List.getElem?_eq_getElem hix] at hxx;exact Option.some.inj hxx
    have HDR:Hid (xs.drop i=x::xs.drop (i+1)):=by rw[←hxe];exact List.drop_eq_getElem_cons hix
    have HBF:Hid (x.1.base≤f):=by rw[←hxe];exact HFB.out hix
    have HNB:Hid (∀ h:i+1<xs.length,xs[i+1].1.base=x.1.next):=fun h=>by rw[←hxe];exact (lined_at HOK.out.line i h).1
    have HTK:Hid (∀ y∈xs.take i,y.1.next≤x.1.base):=by rw[←hxe];exact lined_take HOK.out.of HOK.out.line i hix
    have HLL:Hid (x.2.length≤99999):=(HOK.out.few x hxm).1
    clear hq hxe hxx hxm hz hin hil;obtain⟨nx,hnx⟩:∃ nx,x.1.next=nx:=⟨_,rfl⟩
    rw[hnx] at HNX1 HNX2
    have HNXE:=Lib.hid hnx
    clear hnx;go_wp2_with fail;refine HNX1.out.mono ?_
    rintro e w2 ⟨rfl,hc2⟩
    have HC2:Hid (Chg Nil w w2):=HC.out.trans hc2 (fun _ h=>h.elim)
    clear hc2 HNX1 z0;by_cases hnf:nx≤f
    ·have HA:Hid (∀ out,Reads most f (xs.drop (i+1)) out→Reads most frm xs out):=fun out h=>HFO.out out (by rw[HDR.out];exact .skip (by rw[HNXE.out];exact hnf) h)
     have HB:Hid (∀ h:i+1<xs.length,xs[i+1].1.base≤f):=fun h=>by rw[HNB.out h,HNXE.out];exact hnf
     go_wp2_with fail;go_roundw
     case rel=>exact⟨_,i+1,f,rfl,HIN.out,by go_num,rfl,HFR.out,HB.out,HA.out,HC2.out⟩
     case measure=>exact meas_two HIN.out
    have HNF:Hid (f<x.1.next):=by rw[HNXE.out];unfold Hid;omega
    have HXNE:Hid (x.2≠[]):=fun h0=>by
     have h3:=HXI.out.of.next
     rw[h0] at h3;have h3:x.1.next=x.1.base:=h3
     have h4:=HBF.out
     have h5:=HNF.out
     omega
    have HMID:=Lib.hid (readL_mid HXI.out.of.ok HXI.out.of.up f most (by rw[←HXI.out.of.next];exact HNF.out) (fun h0=>absurd h0 HXNE.out))
    have HBOK:Hid (∀ b∈readL x.2 f most,b.Ok):=fun b hb=>HXI.out.of.ok b (readL_mem b hb)
    have HYL:Hid ((readL x.2 f most).length≤99999):=Nat.le_trans (readL_len _ _ _) HLL.out
    go_wp2_with fail;refine (HRD1.out w2 HC2.out f).mono ?_
    rintro e w3 ⟨u,rfl,hrd,hc3⟩
    obtain⟨ms,hown,hmap,hms,hnew⟩:=hrd
    obtain⟨ua,uc,hu,hle,hcl⟩:=hown.val
    have HCL:=Lib.hid hcl
    have HMAP:=Lib.hid hmap
    have HMS:=Lib.hid hms
    have HC23:=Lib.hid hc3
    have HC3:Hid (Chg Nil w w3):=HC2.out.trans hc3 (fun _ h=>h.elim)
    have HML:Hid (ms.length≤99999):=by have h1:=congrArg List.length hmap;rw[List.length_map] at h1;have h2:=HYL.out;unfold Hid;omega
    have hml:=HML.out
    subst hu;obtain⟨y,hy⟩:∃ y,readL x.2 f most=y:=⟨_,rfl⟩
    rw[hy] at HMID HBOK HYL HMAP
    have HY:=Lib.hid hy
    clear hown hmap hms hnew hcl hle hc3 HRD1 hy;have HYG:Hid (∀ j (hj:j<ms.length),y[j]? = some ms[j].b):=fun j hj=>by
     rw[←HMAP.out,List.getElem?_map,List.getElem?_eq_getElem hj];rfl
    have HYN:Hid (y.length=ms.length):=by rw[←HMAP.out,List.length_map];rfl
    go_wp2_with fail;go_loopw [55,12] (fun jv ov wr=>∃ (wq:World) (j:Nat),wq=wr∧j≤ms.length∧jv = .int .i64 j∧OwnR 37 wr ov (recsFrom f (y.take j))∧(∀ k,ov.ownBlock=some k→w3.heap.size≤k)∧Chg Nil w3 wr) (fun jv _ _=>ms.length-(RowKit.intOf jv).toNat)
    case atStart=>exact⟨_,0,rfl,by omega,rfl,by rw[List.take_zero];exact OwnR.nil _ _,(fun k hk=>by cases hk),Chg.refl _ _⟩
    case round=>
     obtain⟨w4,j,rfl,hj,rfl,hov,hovb,hc4⟩:=hrel
     have HC4:=Lib.hid hc4
     have HOV:=Lib.hid hov
     have HOB:=Lib.hid hovb
     clear hc4 hov hovb;by_cases hjl:j<ms.length
     ·have hjj:(j:Int)<(ms.length:Int):=by omega
      obtain⟨g2,hg2,hz⟩:=HCL.out j hjl
      subst hg2;have hjy:j<y.length:=by rw[HYN.out];exact hjl
      have hyj:y[j]=ms[j].b:=by have h1:=HYG.out j hjl;rw[List.getElem?_eq_getElem hjy] at h1;exact Option.some.inj h1
      have HSN:Hid (recsFrom f (y.take (j+1))=recsFrom f (y.take j)++(ms[j].b.rs).filter (ge f)):=by unfold Hid;rw[recsFrom_snoc f y hjy,hyj]
      have HRS:Hid (RecsAt w3 ms[j].ra ms[j].b.rs):=(HMS.out ms[j] (List.getElem_mem hjl)).1
      have HFW:Hid (ms[j].b.rs.length≤50):=by rw[←hyj];exact (HBOK.out _ (List.getElem_mem hjy)).nums.few
      have HLEN:Hid ((recsFrom f (y.take j)).length≤5000000):=by
       have h1:=recsFrom_le f (l:=y.take j) (fun b hb=>HBOK.out b (List.mem_of_mem_take hb))
       rw[List.length_take] at h1;have h2:=HYL.out
       unfold Hid;omega
      obtain⟨m',hm'⟩:∃ m':Bm,ms[j]=m':=⟨_,rfl⟩
      rw[hm'] at hz HSN HRS HFW
      have HJL:=Lib.hid hjl
      obtain⟨⟨mb,me,rs⟩,ra,rc⟩:=m'
      have z0:w4.cell? ⟨g2,j*3+0,none⟩=some (.int .i64 mb):=HC4.out.cell (hz 0 _ rfl) (fun h=>h)
      have z1:w4.cell? ⟨g2,j*3+1,none⟩=some (.int .i64 me):=HC4.out.cell (hz 1 _ rfl) (fun h=>h)
      have z2:w4.cell? ⟨g2,j*3+2,none⟩=some (.slice ra rs.length rc):=HC4.out.cell (hz 2 _ rfl) (fun h=>h)
      rw[Nat.add_zero] at z0;have HSN:Hid (recsFrom f (y.take (j+1))=recsFrom f (y.take j)++rs.filter (ge f)):=HSN
      have HRS:Hid (RecsAt w3 ra rs):=HRS
      have hfw:rs.length≤50:=HFW.out
      clear hz hm' hyj hjy hjl HFW;have hal:=(Chg.refl Nil w4).alloc (.cells #[.int .i64 mb,.int .i64 me,.slice ra rs.length rc] 112)
      have hbx:=Box.new w4 [.int .i64 mb,.int .i64 me,.slice ra rs.length rc] 112
      go_upto_region 14 with fail;clear z0 z1 z2;have hbx:Box (w4.alloc (.cells #[.int .i64 mb,.int .i64 me,.slice ra rs.length rc] 112)) w4.heap.size [.int .i64 mb,.int .i64 me,.slice ra rs.length rc] 112:=hbx
      have HC5:=Lib.hid (HC4.out.trans hal (fun _ h=>h.elim))
      have HOV5:=Lib.hid (HOV.out.chg hal (fun _ _ h=>h))
      clear hal;generalize w4.alloc (.cells #[.int .i64 mb,.int .i64 me,.slice ra rs.length rc] 112)=w5 at *
      generalize w4.heap.size=gq at *;have y2:=hbx.cell (j:=2) rfl
      clear hbx;go_wp2_with fail;clear y2;go_loopw [62,12] (fun kv ov wr=>∃ (wq:World) (k:Nat),wq=wr∧k≤rs.length∧kv = .int .i64 k∧OwnR 37 wr ov (recsFrom f (y.take j)++(rs.take k).filter (ge f))∧(∀ k,ov.ownBlock=some k→w3.heap.size≤k)∧Chg Nil w3 wr) (fun kv _ _=>rs.length-(RowKit.intOf kv).toNat)
      case atStart=>exact⟨_,0,rfl,by omega,rfl,by rw[List.take_zero,List.filter_nil,List.append_nil];exact HOV5.out,HOB.out,HC5.out⟩
      case round=>
       obtain⟨w6,k,rfl,hkk,rfl,hov,hovb,hc6⟩:=hrel
       have HC6:=Lib.hid hc6
       have HOV6:=Lib.hid hov
       have HOB6:=Lib.hid hovb
       obtain⟨vx,vn,vc,rfl⟩:=ownsRow_form hov
       clear hc6 hov hovb;by_cases hkl2:k<rs.length
       ·have hkk2:(k:Int)<(rs.length:Int):=by omega
        obtain⟨rb,off,hra,hcell⟩:=HRS.out k hkl2
        subst hra;have HSN2:Hid ((rs.take (k+1)).filter (ge f)=(rs.take k).filter (ge f)++(if ge f rs[k]=true then [rs[k]] else [])):=filter_snoc (ge f) rs hkl2
        have HPL:Hid ((recsFrom f (y.take j)++(rs.take k).filter (ge f)).length≤5000100):=by
         unfold Hid;rw[List.length_append];have h1:=List.length_filter_le (ge f) (rs.take k)
         rw[List.length_take] at h1;have h2:=HLEN.out
         omega
        obtain⟨qr,hqr⟩:∃ qr:Rec,rs[k]=qr:=⟨_,rfl⟩
        rw[hqr] at hcell HSN2
        have HKL:=Lib.hid hkl2
        clear hqr;obtain⟨qo,qt2,qk,qkey,qg,qv⟩:=qr
        have z0:=HC6.out.cell (hcell 0 _ rfl) (fun h=>h)
        have z1:=HC6.out.cell (hcell 1 _ rfl) (fun h=>h)
        have z2:=HC6.out.cell (hcell 2 _ rfl) (fun h=>h)
        have z3:=HC6.out.cell (hcell 3 _ rfl) (fun h=>h)
        have z4:=HC6.out.cell (hcell 4 _ rfl) (fun h=>h)
        have z5:=HC6.out.cell (hcell 5 _ rfl) (fun h=>h)
        rw[Nat.add_zero] at z0;clear hcell;have hbr:=Box.new w6 [.int .i64 qo,.int .i64 qt2,.bool qk,.string qkey,.bool qg,.string qv] 37
        have halr:=(Chg.refl Nil w6).alloc (.cells #[.int .i64 qo,.int .i64 qt2,.bool qk,.string qkey,.bool qg,.string qv] 37)
        go_upto_region 17 with fail;clear z0 z1 z2 z3 z4 z5;have hbr:Box (w6.alloc (.cells #[.int .i64 qo,.int .i64 qt2,.bool qk,.string qkey,.bool qg,.string qv] 37)) w6.heap.size [.int .i64 qo,.int .i64 qt2,.bool qk,.string qkey,.bool qg,.string qv] 37:=hbr
        have HC7:=Lib.hid (HC6.out.trans halr (fun _ h=>h.elim))
        have HOV7:=Lib.hid (HOV6.out.chg halr (fun _ _ h=>h))
        have HSZ7:Hid (w.heap.size≤(w6.alloc (.cells #[.int .i64 qo,.int .i64 qt2,.bool qk,.string qkey,.bool qg,.string qv] 37)).heap.size):=by
         have h1:=((HC3.out.trans HC6.out (fun _ h=>h.elim)).trans halr (fun _ h=>h.elim)).size
         exact h1
        clear halr;generalize w6.alloc (.cells #[.int .i64 qo,.int .i64 qt2,.bool qk,.string qkey,.bool qg,.string qv] 37)=w7 at *
        generalize w6.heap.size=g7 at *;have y0:=hbr.cell (j:=0) rfl
        have y1:=hbr.cell (j:=1) rfl
        have y2:=hbr.cell (j:=2) rfl
        have y3:=hbr.cell (j:=3) rfl
        have y4:=hbr.cell (j:=4) rfl
        have y5:=hbr.cell (j:=5) rfl
        clear hbr;by_cases hge:f≤qo
        ·have HSN3:Hid ((rs.take (k+1)).filter (ge f)=(rs.take k).filter (ge f)++[⟨qo,qt2,qk,qkey,qg,qv⟩]):=by
          unfold Hid;rw[HSN2.out,if_pos (by unfold ge;simpa using hge)]
         obtain⟨P,hP⟩:∃ P,recsFrom f (y.take j)++(rs.take k).filter (ge f)=P:=⟨_,rfl⟩
         rw[hP] at HOV7 HPL
         have HP:=Lib.hid hP
         have h63:P.length+1≤maxLen:=by have:=HPL.out;unfold maxLen;omega
         have hby:(P.length+1)*64≤140737488355328:=by have:=HPL.out;omega
         have HB1:=Lib.hid (Box.new w7 (Rec.cells ⟨qo,qt2,qk,qkey,qg,qv⟩) 37)
         have HH63:=Lib.hid h63
         have HBY:=Lib.hid hby
         have HGE:=Lib.hid hge
         clear hP h63 hby;go_wp2_with (at_builtin;go_must (refine wpList_append_grew rfl (.tmp 70) (.tmp 72) 33 33 rfl recsT _ Tryz.underlying33 (by intro _;simp) _ _ _ rfl (HOV7.out.alloc _) _ 1 (Rec.cells ⟨qo,qt2,qk,qkey,qg,qv⟩) rfl (Source.box HB1.out rfl (Rec.cells_one _)) HH63.out HBY.out ?_);intro v2 w8 hown2 hg2 _;obtain⟨x2,n2,c2,rfl⟩:=ownsRow_form hown2;have HOWN2:=Lib.hid hown2;have HG2:=Lib.hid hg2;clear hown2 hg2)
         go_roundw
         case rel=>
          have hch8:Chg Nil w3 w8:=(HC7.out.trans ((Chg.refl Nil w7).alloc (.cells (Rec.cells ⟨qo,qt2,qk,qkey,qg,qv⟩).toArray 37)) (fun _ h=>h.elim)).trans HG2.out.chg (fun i hi=>.inr (HOB6.out i hi))
          refine⟨_,k+1,rfl,HKL.out,by go_num,?_,fun i hi=>?_,hch8⟩
          ·have h:=HOWN2.out
           unfold OwnR;rw[HSN3.out,←List.append_assoc,HP.out,List.length_append,List.flatMap_append];simpa using h
          ·rcases HG2.out.own i hi with h | h
           ·exact HOB6.out i h
           ·have h1:=(HC7.out.trans ((Chg.refl Nil w7).alloc (.cells (Rec.cells ⟨qo,qt2,qk,qkey,qg,qv⟩).toArray 37)) (fun _ h=>h.elim)).size
            exact Nat.le_trans h1 h
         case measure=>exact meas_two HKL.out
        ·have HSN3:Hid ((rs.take (k+1)).filter (ge f)=(rs.take k).filter (ge f)):=by
          unfold Hid;rw[HSN2.out,if_neg (by unfold ge;simpa using hge),List.append_nil]
         go_wp2_with fail;go_roundw
         case rel=>exact⟨_,k+1,rfl,HKL.out,by go_num,by rw[HSN3.out];exact HOV7.out,HOB6.out,HC7.out⟩
         case measure=>exact meas_two HKL.out
       ·have hkk2:¬(k:Int)<(rs.length:Int):=by omega
        have HFIN:Hid (recsFrom f (y.take j)++(rs.take k).filter (ge f)=recsFrom f (y.take (j+1))):=by
         unfold Hid;rw[HSN.out,show k=rs.length by omega,List.take_length]
        go_wp2_with fail;go_roundw
        case rel=>exact⟨_,j+1,rfl,HJL.out,by go_num,by rw[←HFIN.out];exact HOV6.out,HOB6.out,HC6.out⟩
        case measure=>exact meas_two HJL.out
     ·have hjj:¬(j:Int)<(ms.length:Int):=by omega
      have hje:y.take j=y:=List.take_of_length_le (by rw[HYN.out];omega)
      rw[hje] at HOV;obtain⟨oa,oc,hoe⟩:∃ oa oc,u12 = .slice oa (recsFrom f y).length oc:=⟨_,_,HOV.out.form⟩
      subst hoe;have HSZ:Hid (w.heap.size≤w3.heap.size):=HC3.out.size
      have HC34:Hid (Chg Nil w w4):=HC3.out.trans HC4.out (fun _ h=>h.elim)
      obtain⟨sk,tl,_,hyne,_,hgt,hle2,_,hlex⟩:=HMID.out
      have hm0:0<ms.length:=by rw[←HYN.out];exact List.length_pos_iff.2 hyne
      obtain⟨g2,hg2,hz⟩:=HCL.out (ms.length-1) (by omega)
      subst hg2;have hml1:y.length=(ms.length-1)+1:=by rw[HYN.out];omega
      have hle:lastEnd f y=(ms[ms.length-1]'(by omega)).b.en:=by
       rw[lastEnd_getLast hml1]
       have h1:=HYG.out (ms.length-1) (by omega)
       rw[List.getElem?_eq_getElem (by omega)] at h1
       rw[Option.some.inj h1]
      have z1:w4.cell? ⟨g2,(ms.length-1)*3+1,none⟩=some (.int .i64 (ms[ms.length-1]'(by omega)).b.en):=HC4.out.cell (hz 1 _ rfl) (fun h=>h)
      rw[←hle] at z1;have hk0:(1:Int)≤(ms.length:Int):=by omega
      have hk1:(ms.length:Int)-1<(ms.length:Int):=by omega
      obtain⟨f',hf'⟩:∃ f',lastEnd f y=f':=⟨_,rfl⟩
      rw[hf'] at z1 hgt hlex
      rw[←HXI.out.of.next] at hlex;have HF':=Lib.hid hf'
      have HGT:=Lib.hid hgt
      have HLX:=Lib.hid hlex
      obtain⟨rl,hrl⟩:∃ rl,(recsFrom f y).length=rl:=⟨_,rfl⟩
      rw[hrl];have HRLE:=Lib.hid hrl
      have hjm:(j:Int)<(ms.length:Int)↔False:=⟨fun h=>hjj h,fun h=>h.elim⟩
      clear hz hje hle hle2 hml1 hf' hgt hlex hrl hyne hjm;by_cases hr0:rl=0
      ·subst hr0;have HNIL:Hid (recsFrom f (readL x.2 f most)=[]):=by rw[HY.out];exact List.eq_nil_of_length_eq_zero HRLE.out
       have HNX4:=Lib.hid (HNX2.out w4 HC34.out)
       go_wp2_with fail;refine HNX4.out.mono ?_
       rintro e w9 ⟨rfl,hc9⟩
       have HC9:Hid (Chg Nil w w9):=HC34.out.trans hc9 (fun _ h=>h.elim)
       clear hc9 HNX4 z1;by_cases hfn:f'<nx
       ·have HFN:=Lib.hid hfn
        have HRC:=Lib.hid (HIH.out w9 HC9.out f' (by have h1:=HFR.out.1;have h2:=HGT.out;omega))
        go_wp2_with fail;refine HRC.out.mono ?_
        rintro e w10 ⟨hv,hc10⟩
        have HC10:Hid (Chg Nil w w10):=HC9.out.trans hc10 (fun _ h=>h.elim)
        clear hc10;rcases hv with ⟨hbad,_⟩ | ⟨_,_,v,out,rfl,hown,hnew,hrd⟩
        ·exfalso
         have h1:=HGT.out
         have h2:=HFR.out
         have h3:=HRNG.out
         have h4:=HXN.out
         have h5:=HSP.out
         have h6:=HNXE.out
         omega
        ·have HRDS:Hid (Reads most frm xs out):=by
          refine HFO.out out ?_
          rw[HDR.out];refine .again HNF.out HNIL.out ?_ ?_
          ·rw[HY.out,HF'.out,HNXE.out];exact HFN.out
          ·rw[HY.out,HF'.out,←HDR.out];refine Reads.drop i (fun y hy=>?_) hrd
           have h1:=HTK.out y hy
           have h2:=HBF.out
           have h3:=HGT.out
           omega
         have HOWN:=Lib.hid hown
         have HNEW:Hid (∀ k,v.ownBlock=some k→w.heap.size≤k):=fun k hk=>Nat.le_trans HC9.out.size (hnew k hk)
         clear hown hnew hrd;go_wp2_with fail;go_ret2;exact⟨.inr ⟨HRNG.out.1,HRNG.out.2,v,out,rfl,HOWN.out,HNEW.out,HRDS.out⟩,HC10.out⟩
       ·have HA:Hid (∀ out,Reads most f' (xs.drop (i+1)) out→Reads most frm xs out):=fun out h=>HFO.out out (by
         rw[HDR.out];refine .past HNF.out HNIL.out ?_ ?_
         ·rw[HY.out,HF'.out,HNXE.out];omega
         ·rw[HY.out,HF'.out];exact h)
        have HB:Hid (∀ h:i+1<xs.length,xs[i+1].1.base≤f'):=fun h=>by rw[HNB.out h,HNXE.out];omega
        have HR:Hid (frm≤f'∧f'≤sp):=by have h1:=HFR.out;have h2:=HGT.out;have h3:=HLX.out;have h4:=HXN.out;exact⟨by omega,by omega⟩
        go_wp2_with fail;go_roundw
        case rel=>exact⟨_,i+1,f',rfl,HIN.out,by go_num,rfl,HR.out,HB.out,HA.out,HC9.out⟩
        case measure=>exact meas_two HIN.out
      ·have hrp:(0:Int)<(rl:Int):=by omega
       have HHIT:Hid (Reads most frm xs (recsFrom f y)):=by
        refine HFO.out _ ?_
        rw[HDR.out,←HY.out];refine .hit HNF.out ?_
        rw[HY.out];intro h0;have h1:=HRLE.out
        rw[h0] at h1;exact hr0 h1.symm
       have HOVR:Hid (OwnR 37 w4 (.slice oa rl oc) (recsFrom f y)):=by have h1:=HOV.out;rw[HRLE.out] at h1;exact h1
       have HOBR:Hid (∀ k,(Value.slice oa rl oc).ownBlock=some k→w.heap.size≤k):=fun k hk=>Nat.le_trans HSZ.out (HOB.out k (by rw[HRLE.out];exact hk))
       go_wp2_with fail;go_ret2;exact⟨.inr ⟨HRNG.out.1,HRNG.out.2,_,_,rfl,HOVR.out,HOBR.out,HHIT.out⟩,HC34.out⟩
   ·have hii:¬(i:Int)<(n:Int):=by omega
    have HEND:Hid (Reads most frm xs []):=HFO.out [] (by rw[List.drop_of_length_le (by have:=HXL.out;have:=HNN.out;omega)];exact .nil f)
    go_wp2_with fail;go_ret2;exact⟨.inr ⟨HRNG.out.1,HRNG.out.2,_,[],rfl,OwnR.nil _ _,fun k hk=>(by cases hk),HEND.out⟩,HC.out⟩
end Go.Proofs.YtdjmifaidgbbaaaGreatDoor
