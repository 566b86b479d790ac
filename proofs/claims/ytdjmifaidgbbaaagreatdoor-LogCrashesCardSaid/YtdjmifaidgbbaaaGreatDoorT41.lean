/-
  The law compacts. (Of the logs' seat.)
-/
import Derived.Test.YtdjmifaidgbbaaaGreatDoorT40
set_option linter.unusedVariables false
set_option linter.unusedSimpArgs false
set_option maxHeartbeats 0
set_option maxRecDepth 200000
namespace Go.Proofs.YtdjmifaidgbbaaaGreatDoor
open Go.RowKit Go.Maps
theorem alive_succ {all:List Rec}{gone:List Bool}(h:Offs all) {i:Nat}(hi:i<all.length):alive (all.take (i+1)) gone=alive (all.take i) gone++(if gone.getD i false=true then [] else [all[i]]):=by
 unfold alive;rw[List.take_succ_eq_append_getElem hi,List.filter_append]
 congr 1
 have h1:=h i hi
 have h2:all[i].off.toNat=i:=by omega
 by_cases hg:gone.getD i false=true
 ·rw[if_pos hg,List.filter_cons_of_neg (by rw[h2,hg];simp),List.filter_nil]
 ·rw[if_neg hg,List.filter_cons_of_pos (by rw[h2];simpa using hg),List.filter_nil]
def outI (W:Wd) (lim:Int) (i:Nat):List Nat:=(List.range i).filter (outC W lim)
theorem outI_succ (W:Wd) (lim:Int) (i:Nat):outI W lim (i+1)=outI W lim i++(if outC W lim i=true then [i] else []):=by
 unfold outI;rw[List.range_succ,List.filter_append];congr 1
 by_cases h:outC W lim i=true
 ·rw[if_pos h];simp[h]
 ·rw[if_neg h];simp[h]
theorem outC_at {W:Wd}{lim:Int}{i:Nat}(hi:i<W.all.length):outC W lim i=(!(W.gone.getD i false)&&goneR (lastOf (alive W.all W.gone)) lim W.all[i]):=by
 unfold outC;rw[List.getElem?_eq_getElem hi]
section
variable {w0 w w':World} {x p l:Nat} {most:Int} {B S:Nat→Prop} {sv:Value} {ss:List (Nat×Value)} {d:Dk} {g:Lg} {va vg vm ve:Value} {W:Wd} {m:Nat}
theorem WS.side (h:WS w0 w x p l most B S sv ss d g va vg vm ve W)(hc:Chg (fun k=>B k∧¬WHas x va vg vm ve k∧w0.heap.size≤k) w w'):WS w0 w' x p l most (fun k=>B k∨(w.heap.size≤k∧k<w'.heap.size)) S sv ss d g va vg vm ve W:=
 ⟨h.lg.growC (hc.weak fun k hk=>.inl hk.1),h.wm.chg hc (fun k hk hn=>hn.2.1 hk),fun k hk=>.inl (h.b0 k hk),fun k hk=>.inl (h.bw k hk),h.ch.trans hc (fun k hk=>.inr hk.2.2),h.ne⟩
theorem WS.maySet2 {gb n cap:Nat}(h:WS w0 w x p l most B S sv ss d g va vg (.slice (some ⟨gb,0,none⟩) n cap) ve W) (i:Nat)(hi:i<W.may.length)(hw:w.setCell ⟨gb,i,none⟩ (.bool true)=w') :
  Chg (fun k=>k=gb) w w'∧WS w0 w' x p l most (fun k=>B k∨(w.heap.size≤k∧k<w'.heap.size)) S sv ss d g va vg (.slice (some ⟨gb,0,none⟩) n cap) ve { W with may:=W.may.set i true }:=by
 subst hw;have hsc:Chg (fun k=>k=gb) w (w.setCell ⟨gb,i,none⟩ (.bool true)):=(Chg.refl (fun k=>k=gb) _).setCell (.inl rfl) _
 have hm:=h.wm
 have hgb:WHas x va vg (.slice (some ⟨gb,0,none⟩) n cap) ve gb:=.inr (.inr (.inr (.inl rfl)))
 exact⟨hsc,h.law (hsc.weak (fun k hk=>.inl (by rw[hk];exact hgb))) ⟨hm.c.chg hsc (fun e=>hm.ne.2.2.1 (by rw[e];rfl)),ownsRow_chg hm.a hsc (fun k hk e=>rows_ne hm.a hm.m (by decide) hk (by rw[e];rfl)),ownsRow_chg hm.g hsc (fun k hk e=>hm.gm k hk (by rw[e];rfl)),(hm.m.put i hi true).2,ownsRow_chg hm.e hsc (fun k hk e=>rows_ne hm.e hm.m (by decide) hk (by rw[e];rfl)),hm.new,hm.gm⟩ (fun k hk=>.inl hk)⟩
def CompOk (W:Wd) (js:List Nat) (k:Nat) (d':Dk) (g':Lg) (m:Nat):Prop:=
 (k=0∧ResOk (W.goes js) (W.goes js) 0 d' g' m)∨(k≠0∧ResOk (W.mayGo js) (W.mayGo js) k d' g' m)
theorem op_comp {W0:Wd}(h:WS w0 w x p l most B S sv ss d g va vg vm ve W0)(hp:WPl W d g m)(hm:m≤62)(hH:Handle w0) (now age:Int) (js:List Nat)(hj:js=outL W (wrap64 (now-age)) ((g.segs.map Sg.base)[g.segs.length-1]?.getD 0).toNat) :
  Calls Tryz.prog 20 #[.pointer (some ⟨l,0,none⟩),.int .i64 now,.int .i64 age] w fun e w'=>∃ n k:Nat,e = .returned (.tuple #[.int .i64 (n:Nat),errD k])∧OpAt w0 w x p l most B va vg vm ve W0 ss.length w' fun d' g'=>CompOk W js k d' g' m:=by
 rcases hp with ⟨ys,z,hu⟩ | ⟨hd1,hd2,g2,ys,z,hc⟩
 ·have hn:LgN B w ss g:=hu.needs' h.lg (h.hand hH).1 (h.hand hH).2 (by omega)
  have hseg:=hu.c.segs
  have hz:((g.segs.map Sg.base)[g.segs.length-1]?.getD 0)=z.1.base:=by
   rw[(hu.c.up.ok.lastZ).2.2]
   simp
  rw[hz] at hj;refine (lcompact_any h.lg hu.c.up.ok hn (by rw[hu.c.dir];simp) (by rw[List.length_append,List.length_singleton];omega) now age).mono ?_
  rintro e w' ⟨he,⟨S',sv',ss',h3,h5⟩,h4⟩
  have hr:=hu.comp hm now age
  rw[←hj] at hr;refine⟨_,_,he,S',sv',ss',_,_,h.log h3 h4 (by rw[h5];exact h.ne),by omega,?_,h4⟩
  rcases hr with ⟨r1,r2⟩ | ⟨r1,r2,r3⟩
  ·exact .inl ⟨r1,.inl ⟨rfl,hu.dn,r2⟩⟩
  ·exact .inr ⟨by rw[r1];decide,.inr (.inl ⟨r1,r2,r3⟩)⟩
 ·refine (lcompact_down (h.downBox hd1) now age).mono ?_
  rintro e w' ⟨he,hw⟩
  exact⟨0,6,he,S,sv,ss,d,g,h.nil hw,Nat.le_succ _,.inr ⟨by decide,.inr (.inr (.inl ⟨rfl,hd2,.inr ⟨hd1,hd2,g2,ys,z,(hc.mayGo js).more (Nat.le_succ _)⟩⟩))⟩,hw.weak (fun _ h=>h.elim)⟩
end
theorem NumsAt.ne_own {w:World}{mb:Nat}{fs:List (Nm×Int)}(h:NumsAt w mb fs) {e:TypeId}{sz n:Nat}{v:Value}{xs:List Value}(hr:w.ownsRow 0 e sz v n xs):v.ownBlock≠some mb:=fun hk=>by
 rcases hr.2 with ⟨rfl,_⟩ | ⟨g,cap,cur,rfl,_,hg,_⟩
 ·cases hk
 ·obtain rfl:g=mb:=Option.some.inj hk
  exact h.ne_row hg rfl
theorem OwnZ.snoc {w:World}{v:Value}{l:List Int}{n:Int}(h:w.ownsRow 0 3 1 v (l.length+1) (l.map (fun n=>Value.int .i64 n)++[Value.int .i64 n])):OwnZ w v (l++[n]):=by
 unfold OwnZ;rw[List.map_append,List.length_append,List.length_singleton];exact h
structure WKn (W:Wd) (m:Nat):Prop where
 offs:Offs W.all
 gl:W.gone.length=W.all.length
 ml:W.may.length=W.all.length
 many:W.all.length≤60*m
 rok:∀ r∈W.all,Rec.Ok r
theorem WPl.kn {W:Wd}{d:Dk}{g:Lg}{m:Nat}(h:WPl W d g m):WKn W m:=by
 rcases h with ⟨ys,z,h⟩ | ⟨_,_,g2,ys,z,h⟩
 ·exact⟨h.c.offs,h.c.gl,h.c.ml,h.c.many,h.c.rok⟩
 ·exact⟨h.offs,h.gl,h.ml,h.many,h.rok⟩
def Wd.goesTo (W:Wd) (js:List Nat) (i:Nat):Wd:={ W with may:=mkL js W.may,gone:=mkL (js.take i) W.gone }
theorem compacts_any {w0 w:World} {x p l:Nat} {most:Int} {B S:Nat→Prop} {sv:Value} {ss:List (Nat×Value)} {d:Dk} {g:Lg} {va vg vm ve:Value} {W:Wd} {m:Nat} (h:WS w0 w x p l most B S sv ss d g va vg vm ve W) (hss:ss.length≤m+2) (hp:WPl W d g m) (hm:m≤62) (hH:Handle w0) (now age:Int) :
  Calls Tryz.prog 69 #[.pointer (some ⟨x,0,none⟩),.int .i64 now,.int .i64 age] w fun e w'=>e = .returned (.bool true)∧∃ W',WSt w0 w' x p most W' (m+1):=by
 have HKN:=Lib.hid hp.kn
 have HSS:=Lib.hid hss
 have HM:=Lib.hid hm
 have HH:=Lib.hid h
 have HSEG:=Lib.hid (fun (w':World) (hw:Chg Nil w w')=>lsegs_any (h.nil hw).lg.t (by omega))
 have HGL:Hid (ss.length=g.segs.length):=h.lg.len
 have HNE:Hid (0<g.segs.length):=by rw[←HGL.out];exact h.ne
 obtain⟨lim,hlim⟩:∃ lim,wrap64 (now-age)=lim:=⟨_,rfl⟩
 have HLIM:=Lib.hid hlim
 obtain⟨fr,hfr⟩:∃ fr,((g.segs.map Sg.base)[g.segs.length-1]?.getD 0)=fr:=⟨_,rfl⟩
 have HFR:=Lib.hid hfr
 have HCO:Hid (∀ (w':World) (B':Nat→Prop) (W0:Wd) (js:List Nat),WS w0 w' x p l most B' S sv ss d g va vg vm ve W0→js=outL W lim fr.toNat→Calls Tryz.prog 20 #[.pointer (some ⟨l,0,none⟩),.int .i64 now,.int .i64 age] w' fun e w''=>∃ n k:Nat,e = .returned (.tuple #[.int .i64 (n:Nat),errD k])∧OpAt w0 w' x p l most B' va vg vm ve W0 ss.length w'' fun d' g'=>CompOk W js k d' g' m):=fun w' B' W0 js hs hj=>op_comp hs hp hm hH now age js (by rw[hfr,hlim];exact hj)
 have HHN:=Lib.hid hH
 obtain⟨N,hN⟩:∃ N,W.all.length=N:=⟨_,rfl⟩
 have HN:=Lib.hid hN
 have hN2:N≤4000:=by have:=HKN.out.many;have:=HM.out;omega
 have HN2:=Lib.hid hN2
 have hm1:=NumsAt.made w
 have hal:=(Chg.refl Nil w).alloc (.map #[] 0)
 have hmm:=@run_makeMap Tryz.prog
 clear h hss hp hm hH hlim hfr hN;go_enter Tryz.func69,Tryz.ntmps69
 go_upto_region 2 with fail;obtain⟨mb,hmb⟩:∃ mb,w.heap.size=mb:=⟨_,rfl⟩
 generalize hw1:w.alloc (.map #[] 0)=w1 at *;rw[hmb] at hm1
 rw[hmb];have HM1:Hid (NumsAt w1 mb (lastOf [])):=hm1
 have HAL:=Lib.hid hal
 have HMB:Hid (w.heap.size≤mb):=Nat.le_of_eq hmb
 clear hm1 hal hmm hw1 hmb;go_wp2_with fail;go_loopw [8] (fun iv wr=>∃ (wq:World) (i:Nat),wq=wr∧Hid (i≤N)∧iv = .int .i64 (i:Nat)∧Hid (NumsAt wr mb (lastOf (alive (W.all.take i) W.gone)))∧Hid (Chg (fun k=>k=mb) w1 wr)) (fun iv _=>N-(RowKit.intOf iv).toNat)
 case atStart=>exact⟨_,0,rfl,Nat.zero_le _,rfl,HM1.out,Chg.refl _ _⟩
 case round=>
  obtain⟨wr,i,rfl,HI,rfl,HNM,HC⟩:=hrel
  have HCW:Hid (Chg Nil w wr):=HAL.out.trans HC.out (fun k hk=>.inr (by rw[hk];exact HMB.out))
  have HS:=Lib.hid (HH.out.nil HCW.out)
  have c3:wr.cell? ⟨x,3,none⟩=some va:=HS.out.wm.c.cell (j:=3) rfl
  obtain⟨aa,ac,hva,_,hacell⟩:=HS.out.wm.a.valAt
  rw[HN.out] at hva;have HVA:=Lib.hid hva
  have hiN:i≤N:=HI.out
  rw[hva] at c3;clear hva;by_cases hin:i<N
  ·have hii:(i:Int)<(N:Int):=by omega
   have hiA:i<W.all.length:=by rw[HN.out];exact hin
   have hiG:i<W.gone.length:=by rw[HKN.out.gl];exact hiA
   obtain⟨ab,ha,haz⟩:=hacell i hiA
   obtain⟨ga,gc,hvg,_,hgcell⟩:=HS.out.wm.g.val
   obtain⟨gb,hgb,hgz⟩:=hgcell i hiG
   have e1:W.gone.length=N:=by rw[HKN.out.gl];exact HN.out
   rw[e1] at hvg;have hgd:W.gone.getD i false=W.gone[i]:=by rw[List.getD_eq_getElem?_getD,List.getElem?_eq_getElem hiG];rfl
   have hsu:=alive_succ (gone:=W.gone) HKN.out.offs hiA
   have hof:=HKN.out.offs i hiA
   have hrk:=HKN.out.rok _ (List.getElem_mem hiA)
   obtain⟨r,hr⟩:∃ r:Rec,W.all[i]=r:=⟨_,rfl⟩
   obtain⟨gv,hgv⟩:∃ gv:Bool,W.gone[i]=gv:=⟨_,rfl⟩
   rw[hr] at hsu hof hrk haz
   rw[hgd,hgv] at hsu;rw[hgv] at hgz;have HSU:=Lib.hid hsu
   have hks:r.key.size≤maxLen:=hrk.key
   have HKS:=Lib.hid hks
   have HIN:=Lib.hid hin
   have HFL:Hid ((alive (W.all.take i) W.gone).length<maxLen):=by
    have h2:(alive (W.all.take i) W.gone).length≤(W.all.take i).length:=List.length_filter_le _ _
    rw[List.length_take] at h2;have:=HN2.out
    unfold Hid maxLen;omega
   have c4:wr.cell? ⟨x,4,none⟩=some vg:=HS.out.wm.c.cell (j:=4) rfl
   rw[hvg] at c4;obtain⟨pre,hpre⟩:∃ pre,alive (W.all.take i) W.gone=pre:=⟨_,rfl⟩
   rw[hpre] at HNM HFL HSU
   subst ha hgb;clear hacell hgcell hvg hgd hsu hrk hr hgv hiA hiG hin hks hpre e1;obtain⟨ro,rt,rk,rkey,rg,rv⟩:=r
   have hof:ro=(i:Nat):=hof
   subst hof;have z0:=haz 0 _ rfl
   have z1:=haz 1 _ rfl
   have z2:=haz 2 _ rfl
   have z3:=haz 3 _ rfl
   have z4:=haz 4 _ rfl
   have z5:=haz 5 _ rfl
   rw[Nat.add_zero] at z0;clear haz;have hbr:=Box.new wr [.int .i64 (i:Nat),.int .i64 rt,.bool rk,.string rkey,.bool rg,.string rv] 37
   have halr:=(Chg.refl Nil wr).alloc (.cells #[.int .i64 (i:Nat),.int .i64 rt,.bool rk,.string rkey,.bool rg,.string rv] 37)
   have hbr:Box (wr.alloc (.cells #[.int .i64 (i:Nat),.int .i64 rt,.bool rk,.string rkey,.bool rg,.string rv] 37)) wr.heap.size [.int .i64 (i:Nat),.int .i64 rt,.bool rk,.string rkey,.bool rg,.string rv] 37:=hbr
   go_upto_region 6 with fail;clear z0 z1 z2 z3 z4 z5;obtain⟨gy,hgy⟩:∃ gy,wr.heap.size=gy:=⟨_,rfl⟩
   generalize hw7:wr.alloc (.cells #[.int .i64 (i:Nat),.int .i64 rt,.bool rk,.string rkey,.bool rg,.string rv] 37)=w5 at *;rw[hgy] at hbr
   rw[hgy];have y2:=hbr.cell (j:=2) rfl
   have y3:=hbr.cell (j:=3) rfl
   have c4':=halr.cell c4 (fun h=>h)
   have z0:=halr.cell hgz (fun h=>h)
   have HC5:Hid (Chg (fun k=>k=mb) w1 w5):=HC.out.trans (halr.weak (S':=fun k=>k=mb) (fun _ h=>h.elim)) (fun k hk=>.inl hk)
   have HNM5:Hid (NumsAt w5 mb (lastOf pre)):=HNM.out.chg halr (fun h=>h)
   clear hbr halr hgy hw7 c4 hgz c3;cases rk with
   | true=>
    cases gv with
    | true=>
     have HX:Hid (alive (W.all.take (i+1)) W.gone=pre):=by have h1:=HSU.out;rw[if_pos rfl,List.append_nil] at h1;exact h1
     go_wp2_with fail;go_roundw
     case rel=>exact⟨_,i+1,rfl,HIN.out,by go_num,by rw[HX.out];exact HNM5.out,HC5.out⟩
     case measure=>exact meas_two HIN.out
    | false=>
     have HX:Hid (alive (W.all.take (i+1)) W.gone=pre++[⟨(i:Nat),rt,true,rkey,rg,rv⟩]):=by have h1:=HSU.out;rw[if_neg (by simp)] at h1;exact h1
     obtain⟨w8,hrun,hn8,hc8⟩:=HNM5.out.next ⟨(i:Nat),rt,true,rkey,rg,rv⟩ rfl HFL.out HKS.out
     have hrun:(Instr.mapUpdate 49 (.map (some mb)) (.string rkey) (.int .i64 (i:Nat))).run Tryz.prog w5 = .ok () w8:=hrun
     have HN8:=Lib.hid hn8
     have HC8:=Lib.hid hc8
     clear hn8 hc8;go_wp2_with fail;go_roundw
     case rel=>exact⟨_,i+1,rfl,HIN.out,by go_num,by rw[HX.out];exact HN8.out,HC5.out.trans HC8.out (fun k hk=>.inl hk)⟩
     case measure=>exact meas_two HIN.out
   | false=>
    have HX:Hid (lastOf (alive (W.all.take (i+1)) W.gone)=lastOf pre):=by
     have h1:=HSU.out
     have h2:lastOf (alive (W.all.take (i+1)) W.gone)=lastOf pre:=by
      rw[h1];split
      ·rw[List.append_nil]
      ·exact lastOf_not rfl
     exact h2
    go_wp2_with fail;go_roundw
    case rel=>exact⟨_,i+1,rfl,HIN.out,by go_num,by rw[HX.out];exact HNM5.out,HC5.out⟩
    case measure=>exact meas_two HIN.out
  ·have hii:¬(i:Int)<(N:Int):=by omega
   obtain rfl:i=N:=by omega
   have HALL:Hid (W.all.take i=W.all):=List.take_of_length_le (by rw[HN.out];exact Nat.le_refl _)
   have HNM2:Hid (NumsAt wr mb (lastOf (alive W.all W.gone))):=by have h1:=HNM.out;rw[HALL.out] at h1;exact h1
   have c1:wr.cell? ⟨x,1,none⟩=some (.pointer (some ⟨l,0,none⟩)):=HS.out.wm.c.cell (j:=1) rfl
   clear hin hacell;go_wp2_with fail;refine (HSEG.out wr HCW.out).mono ?_
   rintro e w3 ⟨tv,rfl,hov,hvn,hc3⟩
   have HS3:=Lib.hid (HS.out.nil hc3)
   have HNM3:Hid (NumsAt w3 mb (lastOf (alive W.all W.gone))):=HNM2.out.chg hc3 (fun h=>h)
   have HC3W:Hid (Chg Nil w w3):=HCW.out.trans hc3 (fun _ h=>h.elim)
   obtain⟨ta,tc,htv,htc,htcell⟩:=hov.val
   rw[List.length_map] at htv;have hseg:(g.segs.map Sg.base)[g.segs.length-1]? = some fr:=by
    have h1:=HFR.out
    rw[List.getElem?_eq_getElem (by rw[List.length_map];have:=HNE.out;omega)] at h1 ⊢
    exact congrArg some h1
   obtain⟨tb,htb,htz⟩:=htcell (g.segs.length-1) (by rw[List.length_map];have:=HNE.out;omega)
   have hfe:(g.segs.map Sg.base)[g.segs.length-1]'(by rw[List.length_map];have:=HNE.out;omega)=fr:=by
    rw[List.getElem?_eq_getElem (by rw[List.length_map];have:=HNE.out;omega)] at hseg
    exact Option.some.inj hseg
   rw[hfe] at htz;subst htb htv;obtain⟨q,hq⟩:∃ q,g.segs.length=q:=⟨_,rfl⟩
   have hq0:0<q:=by rw[←hq];exact HNE.out
   have hq1:q≤70:=by rw[←hq,←HGL.out];have:=HSS.out;have:=HM.out;omega
   rw[hq] at htz ⊢
   have hk0:(1:Int)≤(q:Int):=by omega
   have hk1:(q:Int)-1<(q:Int):=by omega
   clear hov hvn hc3 htcell hseg hfe hq c1 htc;go_wp2_with fail;obtain⟨jn,hjn⟩:∃ jn,min i fr.toNat=jn:=⟨_,rfl⟩
   have HJN:=Lib.hid hjn
   clear hjn hk0 hk1 hq0 hq1 htz c3 hii;go_loopw [12,13] (fun lv iv wr=>∃ (wq:World) (j:Nat) (B1:Nat→Prop),wq=wr∧iv = .int .i64 (j:Nat)∧Hid (j≤jn)∧Hid (WS w0 wr x p l most B1 S sv ss d g va vg vm ve (W.mayGo (outI W lim j)))∧OwnZ wr lv ((outI W lim j).map fun n:Nat=>(n:Int))∧Hid (∀ k,lv.ownBlock=some k→B1 k∧¬WHas x va vg vm ve k∧w0.heap.size≤k)∧Hid (NumsAt wr mb (lastOf (alive W.all W.gone)))) (fun _ iv _=>jn-(RowKit.intOf iv).toNat)
   case atStart=>exact⟨_,0,B,rfl,rfl,Nat.zero_le _,HS3.out,OwnZ.nil _,(fun k hk=>by cases hk),HNM3.out⟩
   case round=>
    obtain⟨wr2,j,B1,rfl,rfl,HJ,HS5,hoz,HLB,HNM5⟩:=hrel
    have HOZ:=Lib.hid hoz
    obtain⟨lx,ln,lc,rfl⟩:=ownsRow_form hoz
    have c3:wr2.cell? ⟨x,3,none⟩=some va:=HS5.out.wm.c.cell (j:=3) rfl
    rw[HVA.out] at c3;clear hoz;by_cases hjj:j<jn
    ·have hji:j<i:=by have:=HJN.out;omega
     have hjf:(j:Int)<fr:=by have:=HJN.out;omega
     have hii:(j:Int)<(i:Int):=by omega
     have hjA:j<W.all.length:=by rw[HN.out];exact hji
     have hjG:j<W.gone.length:=by rw[HKN.out.gl];exact hjA
     have hjM:j<(W.mayGo (outI W lim j)).may.length:=by show j<(mkL _ W.may).length;rw[mkL_len,HKN.out.ml];exact hjA
     obtain⟨aa2,ac2,hva2,_,hacell⟩:=HS5.out.wm.a.valAt
     obtain⟨ab,ha,haz⟩:=hacell j hjA
     rw[HVA.out] at hva2;obtain⟨rfl,-,-⟩:=Value.slice.inj hva2
     obtain⟨ga,gc,hvg,_,hgcell⟩:=HS5.out.wm.g.val
     obtain⟨gb,hgb,hgz⟩:=hgcell j hjG
     rw[show (W.mayGo (outI W lim j)).gone.length=i by show W.gone.length=i;rw[HKN.out.gl];exact HN.out] at hvg
     replace hgz:wr2.cell? ⟨gb,j,none⟩=some (.bool W.gone[j]):=hgz
     replace haz:∀ t u,(W.all[j].cells)[t]? = some u→wr2.cell? ⟨ab,j*6+t,none⟩=some u:=haz
     have hgd:W.gone.getD j false=W.gone[j]:=by rw[List.getD_eq_getElem?_getD,List.getElem?_eq_getElem hjG];rfl
     have hout:=outC_at (W:=W) (lim:=lim) hjA
     have hof:=HKN.out.offs j hjA
     have hrk:=HKN.out.rok _ (List.getElem_mem hjA)
     obtain⟨r,hr⟩:∃ r:Rec,W.all[j]=r:=⟨_,rfl⟩
     obtain⟨gv,hgv⟩:∃ gv:Bool,W.gone[j]=gv:=⟨_,rfl⟩
     rw[hr] at hof hrk haz hout
     rw[hgd,hgv] at hout;rw[hgv] at hgz;have HOUT:=Lib.hid hout
     have hks:r.key.size≤maxLen:=hrk.key
     have HKS:=Lib.hid hks
     have HJM:Hid (∀ _:True,j<(W.mayGo (outI W lim j)).may.length):=fun _=>hjM
     have HJJ:=Lib.hid hjj
     have c4:wr2.cell? ⟨x,4,none⟩=some vg:=HS5.out.wm.c.cell (j:=4) rfl
     rw[hvg] at c4;subst ha hgb;clear hacell hva2 hgcell hvg hgd hout hrk hr hgv hjA hjG hjM hjj hks hji;obtain⟨ro,rt,rk,rkey,rg,rv⟩:=r
     have hof:ro=(j:Nat):=hof
     subst hof;have z0:=haz 0 _ rfl
     have z1:=haz 1 _ rfl
     have z2:=haz 2 _ rfl
     have z3:=haz 3 _ rfl
     have z4:=haz 4 _ rfl
     have z5:=haz 5 _ rfl
     rw[Nat.add_zero] at z0;clear haz;have hbr:=Box.new wr2 [.int .i64 (j:Nat),.int .i64 rt,.bool rk,.string rkey,.bool rg,.string rv] 37
     have halr:=(Chg.refl Nil wr2).alloc (.cells #[.int .i64 (j:Nat),.int .i64 rt,.bool rk,.string rkey,.bool rg,.string rv] 37)
     have hbr:Box (wr2.alloc (.cells #[.int .i64 (j:Nat),.int .i64 rt,.bool rk,.string rkey,.bool rg,.string rv] 37)) wr2.heap.size [.int .i64 (j:Nat),.int .i64 rt,.bool rk,.string rkey,.bool rg,.string rv] 37:=hbr
     go_upto_region 15 with fail;clear z0 z1 z2 z3 z4 z5 c3 hjf;obtain⟨gy,hgy⟩:∃ gy,wr2.heap.size=gy:=⟨_,rfl⟩
     generalize hw7:wr2.alloc (.cells #[.int .i64 (j:Nat),.int .i64 rt,.bool rk,.string rkey,.bool rg,.string rv] 37)=w5 at *;rw[hgy] at hbr
     rw[hgy];have y1:=hbr.cell (j:=1) rfl
     have y2:=hbr.cell (j:=2) rfl
     have y3:=hbr.cell (j:=3) rfl
     have y4:=hbr.cell (j:=4) rfl
     have c4':=halr.cell c4 (fun h=>h)
     have z0:=halr.cell hgz (fun h=>h)
     have HS6:=Lib.hid (HS5.out.nil halr)
     have HOZ6:Hid (OwnZ w5 (.slice lx ln lc) ((outI W lim j).map fun n:Nat=>(n:Int))):=ownsRow_chg HOZ.out halr (fun _ _ h=>h)
     have HNM6:Hid (NumsAt w5 mb (lastOf (alive W.all W.gone))):=HNM5.out.chg halr (fun h=>h)
     have hlk:=HNM6.out.look (s:=rkey) HKS.out
     obtain⟨lv,hlv⟩:∃ lv,((lastOf (alive W.all W.gone)).lookup rkey.data.toList).getD 0=lv:=⟨_,rfl⟩
     rw[hlv] at hlk;have HOUT2:Hid (outC W lim j=(!gv&&(rk&&(decide ((j:Int)<lv)||(rg&&decide (rt<lim)))))):=by
      have h1:=HOUT.out
      unfold goneR at h1;rw[←hlv];exact h1
     have hlm:wrap64 (now-age)=lim:=HLIM.out
     clear hbr halr hgy hw7 c4 hgz hlv;go_cut [114] (fun bv wy=>bv = .bool (outC W lim j)∧wy=w5)
     case first=>
      cases rk with
      | false=>
       have HO:Hid (outC W lim j=false):=Lib.hid (by simpa using HOUT2.out)
       go_wp2_with fail;go_meet
       case rel=>exact⟨by rw[HO.out],rfl⟩
      | true=>
       cases gv with
       | true=>
        have HO:Hid (outC W lim j=false):=Lib.hid (by simpa using HOUT2.out)
        go_wp2_with fail;go_meet
        case rel=>exact⟨by rw[HO.out],rfl⟩
       | false=>
        by_cases hl:(j:Int)<lv
        ·have HO:Hid (outC W lim j=true):=Lib.hid (by have h1:=HOUT2.out;rw[decide_eq_true hl] at h1;simpa using h1)
         go_wp2_with fail;go_meet
         case rel=>exact⟨by rw[HO.out],rfl⟩
        ·cases rg with
         | false=>
          have HO:Hid (outC W lim j=false):=Lib.hid (by have h1:=HOUT2.out;rw[decide_eq_false hl] at h1;simpa using h1)
          go_wp2_with fail;go_meet
          case rel=>exact⟨by rw[HO.out],rfl⟩
         | true=>
          have HO:Hid (outC W lim j=decide (rt<lim)):=Lib.hid (by have h1:=HOUT2.out;rw[decide_eq_false hl] at h1;simpa using h1)
          go_wp2_with fail;go_meet
          case rel=>exact⟨by rw[HO.out],rfl⟩
     obtain⟨rfl,hw⟩:=hcut
     obtain rfl:=hw.symm
     have hsuc:=outI_succ W lim j
     clear y1 y2 y3 y4 c4' z0 hlk hlm;cases hoc:outC W lim j with
     | true=>
      rw[hoc,if_pos rfl] at hsuc
      have HSUC:=Lib.hid hsuc
      have hal:=(Chg.refl Nil w5).alloc (.cells #[.int .i64 (j:Nat)] 3)
      have HOZ7:Hid (OwnZ (w5.alloc (.cells #[.int .i64 (j:Nat)] 3)) (.slice lx ln lc) ((outI W lim j).map fun n:Nat=>(n:Int))):=ownsRow_chg HOZ6.out hal (fun _ _ h=>h)
      have HB1:=Lib.hid (Box.new w5 [.int .i64 (j:Nat)] 3)
      have hll:(outI W lim j).length≤4000:=by
       have h1:(outI W lim j).length≤(List.range j).length:=List.length_filter_le _ _
       rw[List.length_range] at h1;have:=HJJ.out
       have:=HJN.out
       have:=HN2.out
       omega
      have HH63:Hid (((outI W lim j).map fun n:Nat=>(n:Int)).length+1≤maxLen):=by unfold Hid maxLen;rw[List.length_map];omega
      have HBY:Hid ((((outI W lim j).map fun n:Nat=>(n:Int)).length+1)*8≤140737488355328):=by unfold Hid;rw[List.length_map];omega
      have HAL7:=Lib.hid hal
      clear hsuc hoc hal hll;go_upto_region 17 with (at_builtin;go_must (refine wpList_append_grew rfl (.tmp 115) (.tmp 117) 43 43 rfl intT _ Tryz.underlying43 (by intro _;simp) _ _ _ rfl HOZ7.out _ 1 [.int .i64 (j:Nat)] rfl (Source.box HB1.out rfl (int_one _)) HH63.out HBY.out ?_);intro v2 w8 hown2 hg2 _;obtain⟨x2,n2,c2,rfl⟩:=ownsRow_form hown2;have HOWN2:=Lib.hid hown2;have HG2:=Lib.hid hg2;clear hown2 hg2)
      have hsd:Chg (fun k=>B1 k∧¬WHas x va vg vm ve k∧w0.heap.size≤k) w5 w8:=(HAL7.out.weak (fun _ h=>h.elim)).trans (HG2.out.chg.weak (S':=fun k=>B1 k∧¬WHas x va vg vm ve k∧w0.heap.size≤k) (fun k hk=>.inl (HLB.out k hk))) (fun k hk=>.inl hk)
      have hS8:=HS6.out.side hsd
      have hlb8:∀ k,(Value.slice x2 n2 c2).ownBlock=some k→(B1 k∨(w5.heap.size≤k∧k<w8.heap.size))∧¬WHas x va vg vm ve k∧w0.heap.size≤k:=fun k hk=>by
       rcases HG2.out.own k hk with h1 | h1
       ·have h2:=HLB.out k h1
        exact⟨.inl h2.1,h2.2⟩
       ·have h2:w5.heap.size≤k:=Nat.le_trans HAL7.out.size h1
        refine⟨.inr ⟨h2,ownsRow_lt HOWN2.out k hk⟩,fun hw=>?_,?_⟩
        ·have:=HS6.out.wm.lt k hw;omega
        ·have:=HS6.out.ch.size;omega
      have hnm8:NumsAt w8 mb (lastOf (alive W.all W.gone)):=(HNM6.out.chg HAL7.out (fun h=>h)).chg HG2.out.chg (fun hk=>(HNM6.out.chg HAL7.out (fun h=>h)).ne_own HOZ7.out hk)
      have HS8:=Lib.hid hS8
      have HLB8:=Lib.hid hlb8
      have HNM8:=Lib.hid hnm8
      have hoz8:OwnZ w8 (.slice x2 n2 c2) ((outI W lim (j+1)).map fun n:Nat=>(n:Int)):=by
       rw[HSUC.out,List.map_append];exact OwnZ.snoc HOWN2.out
      have HOZ8:=Lib.hid hoz8
      clear hsd hS8 hlb8 hnm8 hoz8 HB1 HAL7 HG2 HOZ7 HOZ6 HS6 HNM6;obtain⟨ma,mc,hvm,_,hmcell⟩:=HS8.out.wm.m.val
      obtain⟨mb2,hmb2,hmz⟩:=hmcell j (HJM.out trivial)
      rw[show (W.mayGo (outI W lim j)).may.length=i by show (mkL _ W.may).length=i;rw[mkL_len,HKN.out.ml];exact HN.out] at hvm
      subst hvm hmb2;have c5:w8.cell? ⟨x,5,none⟩=some (.slice (some ⟨mb2,0,none⟩) i mc):=HS8.out.wm.c.cell (j:=5) rfl
      obtain⟨ov,hov⟩:∃ ov,(W.mayGo (outI W lim j)).may[j]'(HJM.out trivial)=ov:=⟨_,rfl⟩
      rw[hov] at hmz;have hput:=HS8.out.maySet2 j (HJM.out trivial) rfl
      have f0:=(HS8.out.wm.m.put j (HJM.out trivial) true).1
      have HPUT:=Lib.hid hput
      clear hput hmcell hov;go_wp2_with fail;go_roundw
      case rel=>
       obtain⟨hsc,hS4⟩:=HPUT.out
       have hw:({ W.mayGo (outI W lim j) with may:=(W.mayGo (outI W lim j)).may.set j true }:Wd)=W.mayGo (outI W lim (j+1)):=by
        rw[HSUC.out];unfold Wd.mayGo;rw[mkL_snoc]
       rw[hw] at hS4;exact⟨_,j+1,_,rfl,by go_num,HJJ.out,hS4,ownsRow_chg HOZ8.out hsc (fun q hq e=>rows_ne HOZ8.out HS8.out.wm.m (by decide) hq (by rw[e];rfl)),fun k hk=>⟨.inl (HLB8.out k hk).1,(HLB8.out k hk).2⟩,HNM8.out.chg hsc (fun e=>HNM8.out.ne_own HS8.out.wm.m (by rw[e];rfl))⟩
      case measure=>exact meas_two HJJ.out
     | false=>
      rw[hoc,if_neg (by simp),List.append_nil] at hsuc
      have HSUC:=Lib.hid hsuc
      clear hsuc hoc;go_wp2_with fail;go_roundw
      case rel=>exact⟨_,j+1,B1,rfl,by go_num,HJJ.out,by rw[HSUC.out];exact HS6.out,by rw[HSUC.out];exact HOZ6.out,HLB.out,HNM6.out⟩
      case measure=>exact meas_two HJJ.out
    ·obtain rfl:j=jn:=by have:=HJ.out;omega
     have HOUT:Hid (outI W lim j=outL W lim fr.toNat):=by
      have h1:=HJN.out
      unfold Hid outI outL;rw[HN.out,h1]
     have c1:wr2.cell? ⟨x,1,none⟩=some (.pointer (some ⟨l,0,none⟩)):=HS5.out.wm.c.cell (j:=1) rfl
     clear hjj;go_upto_region 12 with fail;go_cut [73] (fun bv wy=>bv = .bool false∧wy=wr2)
     case first=>
      by_cases hji:j<i
      ·have hii:(j:Int)<(i:Int):=by omega
       have hjf:¬(j:Int)<fr:=by have:=HJN.out;omega
       clear hji;go_wp2_with fail;go_meet
       case rel=>exact⟨rfl,rfl⟩
      ·have hii:¬(j:Int)<(i:Int):=by omega
       clear hji;go_wp2_with fail;go_meet
       case rel=>exact⟨rfl,rfl⟩
     obtain⟨rfl,hw⟩:=hcut
     obtain rfl:=hw.symm
     clear c3;go_wp2_with fail;refine (HCO.out wr2 B1 _ _ HS5.out HOUT.out).mono ?_
     rintro e w6 ⟨n,k,rfl,S',sv',ss',d',g',hs6,hl6,hq,hc6⟩
     have HS6:=Lib.hid hs6
     have HL6:=Lib.hid hl6
     have HQ:=Lib.hid hq
     have HOZ6:Hid (OwnZ w6 (.slice lx ln lc) ((outI W lim j).map fun n:Nat=>(n:Int))):=ownsRow_chg HOZ.out hc6 (fun q hq2 e=>e (HLB.out q hq2).1)
     have HLB6:Hid (∀ k,(Value.slice lx ln lc).ownBlock=some k→¬WHas x va vg vm ve k):=fun k hk=>(HLB.out k hk).2.1
     clear hs6 hl6 hq hc6 c1;by_cases hk:k=0
     ·subst hk;have he:errD 0 = .nilIface:=rfl
      have HR:Hid (ResOk (W.goes (outI W lim j)) (W.goes (outI W lim j)) 0 d' g' m):=by
       have h1:=HQ.out
       rcases h1 with ⟨_,h2⟩ | ⟨h2,_⟩
       ·exact h2
       ·exact absurd rfl h2
      obtain⟨N2,hN2⟩:∃ N2,(outI W lim j).length=N2:=⟨_,rfl⟩
      have HN3:=Lib.hid hN2
      have hform:=HOZ6.out.form
      have hln:ln=N2:=by
       have h1:=(Value.slice.inj hform).2.1
       rw[List.length_map,hN2] at h1;exact h1
      subst hln;obtain⟨js,hjs⟩:∃ js,outI W lim j=js:=⟨_,rfl⟩
      have HJS:Hid (∀ n∈js,n<i):=fun n hn=>by
       rw[←hjs] at hn;have h1:=List.mem_range.1 (List.mem_filter.1 hn).1
       have:=HJN.out
       omega
      rw[hjs] at HS6 HR HN3 HOZ6
      have hlj:ln≤4000:=by
       have h1:(outI W lim j).length≤(List.range j).length:=List.length_filter_le _ _
       rw[List.length_range,hN2] at h1;have:=HJN.out
       have:=HN2.out
       omega
      clear hform hN2 hjs HOZ HS5 HJ HLB HNM5 HCO HQ HOUT HJN;rw[he];go_wp2_with fail;go_loopw [17] (fun iv wr=>∃ (wq:World) (t:Nat),wq=wr∧Hid (t≤ln)∧iv = .int .i64 (t:Nat)∧Hid (∃ B2,WS w0 wr x p l most B2 S' sv' ss' d' g' va vg vm ve (W.goesTo js t))∧Hid (OwnZ wr (.slice lx ln lc) (js.map fun n:Nat=>(n:Int)))) (fun iv _=>ln-(RowKit.intOf iv).toNat)
      case atStart=>exact⟨_,0,rfl,Nat.zero_le _,rfl,⟨_,HS6.out⟩,HOZ6.out⟩
      case round=>
       obtain⟨wr,t,rfl,HT,rfl,HS7,HOZ7⟩:=hrel
       by_cases htl:t<ln
       ·have htt:(t:Int)<(ln:Int):=by omega
        have htj:t<js.length:=by rw[HN3.out];exact htl
        obtain⟨B2,hs7⟩:=HS7.out
        have HS8:=Lib.hid hs7
        clear hs7;have c4:wr.cell? ⟨x,4,none⟩=some vg:=HS8.out.wm.c.cell (j:=4) rfl
        obtain⟨la,lcc,hlv,_,hlcell⟩:=HOZ7.out.val
        obtain⟨lb,hlb,hlz⟩:=hlcell t (by rw[List.length_map];exact htj)
        obtain⟨jt,hjt⟩:∃ jt,js[t]=jt:=⟨_,rfl⟩
        rw[List.getElem_map,hjt] at hlz;have hji:jt<i:=HJS.out jt (by rw[←hjt];exact List.getElem_mem htj)
        have hjii:(jt:Int)<(i:Int):=by omega
        have hj0:(0:Int)≤(jt:Int):=by omega
        obtain⟨rfl,-,-⟩:=Value.slice.inj hlv
        subst hlb;have hgl:(W.goesTo js t).gone.length=i:=by show (mkL _ W.gone).length=i;rw[mkL_len,HKN.out.gl];exact HN.out
        obtain⟨ga,gc,hvg,_,hgcell⟩:=HS8.out.wm.g.val
        have hjg:jt<(W.goesTo js t).gone.length:=by rw[hgl];exact hji
        obtain⟨gb,hgb,hgz⟩:=hgcell jt hjg
        rw[hgl] at hvg;obtain⟨ov,hov⟩:∃ ov,(W.goesTo js t).gone[jt]=ov:=⟨_,rfl⟩
        rw[hov] at hgz;have HJG:Hid (∀ _:True,jt<(W.goesTo js t).gone.length):=fun _=>hjg
        subst hvg hgb;have HNX:Hid ({ W.goesTo js t with gone:=(W.goesTo js t).gone.set jt true } = W.goesTo js (t+1)):=by
         unfold Hid Wd.goesTo;rw[List.take_succ_eq_append_getElem htj,hjt,mkL_snoc]
        have HTL:=Lib.hid htl
        have HGZ:=Lib.hid hgz
        clear hlv hgcell hlcell hjg hov hgl hji hjt htj htl hgz;go_upto_region 23 with fail;refine Ch.wp_region_tail _ 9 (Chg (Nil)) [] (fun _ _=>True) (by kernel_rfl) (fun _=>Chg.refl _ _) (fun _ _ _ h k=>h.trans k (fun _ h=>.inl h)) [[],[0],[1],[2],[],[],[4,5],[6],[3,7],[8]] rfl (by kernel_rfl) (by kernel_rfl) (by kernel_rfl) (Chg.refl _ _).drew ?_ ?_
        ·trivial
        simp only[List.take_succ_cons,List.take_zero,List.drop_succ_cons,List.drop_zero,List.length_cons,List.length_nil,Nat.reduceAdd]
        iterate 3 ((with_reducible apply Ch.Walk.eq);(case hd=>rfl);(case hi=>rfl);case h=>(intro w2 hw2 N hN;simp only[Ch.depB];go_simp;(try go_bits);with_reducible exact hN _ (Chg.refl _ _) (fun _ h=>h)))
        ((with_reducible apply Ch.Walk.eq);(case hd=>rfl);(case hi=>rfl);case h=>(intro w2 hw2 N hN;(have hq:=hw2.cell c4 (fun h=>h));simp only[Ch.depB];go_simp;(try go_bits);with_reducible exact hN _ (Chg.refl _ _) (fun _ h=>h)))
        iterate 3 ((with_reducible apply Ch.Walk.eq);(case hd=>rfl);(case hi=>rfl);case h=>(intro w2 hw2 N hN;simp only[Ch.depB];go_simp;(try go_bits);with_reducible exact hN _ (Chg.refl _ _) (fun _ h=>h)))
        ((with_reducible apply Ch.Walk.eq);(case hd=>rfl);(case hi=>rfl);case h=>(intro w2 hw2 N hN;(have hq:=hw2.cell hlz (fun h=>h));simp only[Ch.depB];go_simp;(try go_bits);with_reducible exact hN _ (Chg.refl _ _) (fun _ h=>h)))
        ((with_reducible apply Ch.Walk.eq);(case hd=>rfl);(case hi=>rfl);case h=>(intro w2 hw2 N hN;simp only[Ch.depB];go_simp;(try go_bits);with_reducible exact hN _ (Chg.refl _ _) (fun _ h=>h)))
        intro w6 hw6;simp only[List.nil_append,List.cons_append,Ch.Fin,List.map_cons,List.map_nil,List.getD_cons_zero,List.getD_cons_succ]
        intro _;have HS9:=Lib.hid (HS8.out.nil hw6)
        have HOZ9:Hid (OwnZ w6 (.slice (some ⟨lb,0,none⟩) ln lc) (js.map fun n:Nat=>(n:Int))):=ownsRow_chg HOZ7.out hw6 (fun _ _ h=>h)
        have z0:=hw6.cell HGZ.out (fun h=>h)
        have hput:=HS9.out.goneSet jt (HJG.out trivial) rfl
        have f0:=(HS9.out.wm.g.put jt (HJG.out trivial) true).1
        have HPUT:=Lib.hid hput
        clear hput c4 hlz hw6;simp only[Ch.thens_cons,Ch.thens_nil,Oper.wp]
        go_simp;go_wp2_with fail;go_roundw
        case rel=>
         obtain⟨hsc,B3,hS4⟩:=HPUT.out
         rw[HNX.out] at hS4;exact⟨_,t+1,rfl,HTL.out,by go_num,⟨_,hS4⟩,ownsRow_chg HOZ9.out hsc (fun q hq e=>rows_ne HOZ9.out HS9.out.wm.g (by decide) hq (by rw[e];rfl))⟩
        case measure=>exact meas_two HTL.out
       ·have htt:¬(t:Int)<(ln:Int):=by omega
        obtain rfl:t=ln:=by have:=HT.out;omega
        have HGO:Hid (W.goesTo js t=W.goes js):=by
         unfold Hid Wd.goesTo Wd.goes;rw[←HN3.out,List.take_length]
        obtain⟨B2,hs7⟩:=HS7.out
        rw[HGO.out] at hs7;have HAF:=Lib.hid (after_all hs7 (by have:=HL6.out;have:=HSS.out;omega) HM.out HHN.out 0 HR.out)
        rw[he] at HAF;clear he hs7 htl;go_wp2_with fail;refine HAF.out.mono ?_
        rintro e w7 ⟨rfl,hst⟩
        go_wp2_with fail;go_ret;exact⟨rfl,hst⟩
     ·have he:=errD_ne hk
      have HR:Hid (ResOk (W.mayGo (outI W lim j)) (W.mayGo (outI W lim j)) k d' g' m):=by
       have h1:=HQ.out
       rcases h1 with ⟨h2,_⟩ | ⟨_,h2⟩
       ·exact absurd h2 hk
       ·exact h2
      have HAF:=Lib.hid (after_all HS6.out (by have:=HL6.out;have:=HSS.out;omega) HM.out HHN.out k HR.out)
      rw[he] at HAF ⊢
      clear he hk;go_wp2_with fail;refine HAF.out.mono ?_
      rintro e w7 ⟨rfl,hst⟩
      go_wp2_with fail;go_ret;exact⟨rfl,hst⟩
end Go.Proofs.YtdjmifaidgbbaaaGreatDoor
