/-
  A segment is rewritten. (Of the segments' seat.)
-/
import Derived.Test.YtdjmifaidgbbaaaGreatDoorT19
set_option linter.unusedVariables false
set_option linter.unusedSimpArgs false
set_option maxHeartbeats 0
set_option maxRecDepth 200000
namespace Go.Proofs.YtdjmifaidgbbaaaGreatDoor
open Go.RowKit Go.Maps
def dotnew:Nm:=[46,110,101,119]
theorem saway_any {B:Nat→Prop}{w:World}{p s:Nat}{S:Nat→Prop}{v:Value}{d:Dk}{g:Sg}(h:SgS B w p s S v d g)(hg:g.name.length≤1000) (k:Nat)(hk:k≠0) :
  Calls Tryz.prog 107 #[.pointer (some ⟨s,0,none⟩),.iface 65 (.int .i64 (k:Nat))] w fun e w'=>e = .returned (errD k)∧(∃ S',SgS B w' p s S' v (d.remove g.name).2 g)∧Chg (Off B) w w':=by
 have HOP:=Lib.hid (sremove_any h hg)
 have HE:=Lib.hid (errD_ne hk)
 clear h hg hk;go_enter Tryz.func107,Tryz.ntmps107
 go_wp2_with fail;refine HOP.out.mono ?_
 rintro e w1 ⟨rfl,h1,h2⟩
 have H1:=Lib.hid h1
 have H2:=Lib.hid h2
 clear h1 h2;generalize errD (d.remove g.name).1=ev
 go_wp2_with fail;go_ret;rw[HE.out];exact⟨rfl,H1.out,H2.out⟩
def rew0 (d:Dk) (nm:Nm):Nat×Dk:=if 0≤d.size nm then d.remove nm else (0,d)
def rew4 (d:Dk) (g gt:Sg):Nat×Dk×Sg:=
 if (d.rename gt.name g.name).1=0 then (0,(d.rename gt.name g.name).2,{ g with pls:=gt.pls,size:=gt.size }) else ((d.rename gt.name g.name).1,((d.rename gt.name g.name).2.remove gt.name).2,g)
def rew3 (d:Dk) (g gt:Sg):Nat×Dk×Sg:=
 if (d.sync gt.name).1=0 then rew4 (d.sync gt.name).2 g gt else ((d.sync gt.name).1,((d.sync gt.name).2.remove gt.name).2,g)
def rew2 (d:Dk) (g gt:Sg):List Bt→Nat×Dk×Sg
 | []=>rew3 d g gt
 | b::l=>if (addSg d gt b.base b.en b.rs).1=0 then rew2 (addSg d gt b.base b.en b.rs).2.1 g (addSg d gt b.base b.en b.rs).2.2 l else ((addSg d gt b.base b.en b.rs).1,((addSg d gt b.base b.en b.rs).2.1.remove gt.name).2,g)
def rew1 (d:Dk) (g:Sg) (nm:Nm) (l:List Bt):Nat×Dk×Sg:=
 if (d.make nm).1=0 then rew2 (d.make nm).2 g ⟨nm,g.base,[],0⟩ l else ((d.make nm).1,(d.make nm).2,g)
def rewL (d:Dk) (g:Sg) (nm:Nm) (l:List Bt):Nat×Dk×Sg:=
 if (rew0 d nm).1=0 then rew1 (rew0 d nm).2 g nm l else ((rew0 d nm).1,(rew0 d nm).2,g)
theorem addSg_more (d:Dk) (g:Sg) (base en:Int) (rs:List Rec):(addSg d g base en rs).2.2.pls.length≤g.pls.length+1∧(addSg d g base en rs).2.2.size≤g.size+(encAll base en rs).length:=by
 unfold addSg;split
 ·exact⟨by show g.pls.length≤_;omega,by show g.size≤_;omega⟩
 ·split
  ·exact⟨by show g.pls.length≤_;omega,by show g.size≤_;omega⟩
  ·split
   ·refine⟨?_,Nat.le_refl _⟩
    show (g.pls++[_]).length≤_
    rw[List.length_append];exact Nat.le_refl _
   ·exact⟨by show g.pls.length≤_;omega,by show g.size≤_;omega⟩
theorem addSg_name (d:Dk) (g:Sg) (base en:Int) (rs:List Rec):(addSg d g base en rs).2.2.name=g.name:=by
 unfold addSg;split
 ·rfl
 ·split
  ·rfl
  ·split<;>rfl
structure RwS (B:Nat→Prop) (w:World) (p s t:Nat) (S:Nat→Prop) (v vt:Value) (d:Dk) (g gt:Sg):Prop where
 t:SgS (fun k=>B k∨SHas s v k) w p t S vt d gt
 m:Sm w s p v g
 ml:∀ k,SHas s v k→¬B k
theorem RwS.nil {B:Nat→Prop}{w w':World}{p s t:Nat}{S:Nat→Prop}{v vt:Value}{d:Dk}{g gt:Sg}(h:RwS B w p s t S v vt d g gt)(hc:Chg Nil w w'):RwS B w' p s t S v vt d g gt:=⟨h.t.nil hc,h.m.chg hc (fun _ _ h=>h),h.ml⟩
theorem RwS.op {B:Nat→Prop}{w w':World}{p s t:Nat}{S S':Nat→Prop}{v vt vt':Value}{d d':Dk}{g gt gt':Sg}(h:RwS B w p s t S v vt d g gt)(h2:SgS (fun k=>B k∨SHas s v k) w' p t S' vt' d' gt')(hc:Chg (Off (fun k=>B k∨SHas s v k)) w w'):RwS B w' p s t S' v vt' d' g gt':=
 ⟨h2,h.m.chg hc (fun k hk hn=>hn (.inr hk)),h.ml⟩
theorem RwS.back {B:Nat→Prop}{w:World}{p s t:Nat}{S:Nat→Prop}{v vt:Value}{d:Dk}{g gt:Sg}(h:RwS B w p s t S v vt d g gt):SgS B w p s S v d g:=
 ⟨fun k hk=>h.t.lo k (.inl hk),h.t.a,h.m,fun k hk hs=>(h.t.sl k hs).1 (.inr hk),fun k hs=>⟨fun hb=>(h.t.sl k hs).1 (.inl hb),(h.t.sl k hs).2⟩,h.ml⟩
theorem RwS.off {B:Nat→Prop}{s:Nat}{v:Value}{w w':World}(hc:Chg (Off (fun k=>B k∨SHas s v k)) w w'):Chg (Off B) w w':=hc.weak (fun k hk=>.inl fun hb=>hk (.inl hb))
theorem RwS.disk {B:Nat→Prop}{w w':World}{p s t:Nat}{S:Nat→Prop}{v vt:Value}{d d':Dk}{g gt:Sg}(h:RwS B w p s t S v vt d g gt)(ha:DiskAt w' p (Gr S w w') d')(hc:Chg S w w'):RwS B w' p s t (Gr S w w') v vt d' g gt:=
 h.op (h.t.disk ha hc) (hc.weak (fun k hk=>.inl (h.t.sl k hk).1))
def RopF (B:Nat→Prop) (p s t:Nat) (S:Nat→Prop) (v vt:Value) (d:Dk) (g gt:Sg) (r:Nat×Dk):List Value→World→Prop
 | [],w=>RwS B w p s t S v vt d g gt
 | _::_,w=>∃ S',RwS B w p s t S' v vt r.2 g gt
theorem RwS.taken {B:Nat→Prop}{w w':World}{p s t:Nat}{S:Nat→Prop}{v vt:Value}{d:Dk}{g gt:Sg}(h:RwS B w p s t S v vt d g gt)(hc:Chg (fun k=>k=s) w w')
  (hb:Box w' s [.pointer (some ⟨p,0,none⟩),.string ⟨g.name.toArray⟩,.int .i64 g.base,vt,.int .i64 (gt.size:Nat)] 155):SgS B w' p s S vt d { g with pls:=gt.pls,size:=gt.size }:=by
 have hz:=hc.size
 have hns:¬S s:=fun hs=>(h.t.sl s hs).1 (.inr (.inl rfl))
 have hnv:∀ k,vt.ownBlock=some k→¬k=s:=fun k hk e=>h.t.ml k (.inr hk) (.inr (.inl e))
 refine⟨fun k hk=>Nat.lt_of_lt_of_le (h.t.lo k (.inl hk)) hz,h.t.a.chg hc (fun k hk e=>hns (e ▸ hk)),⟨hb,h.t.m.o.chg hc hnv⟩,?_,?_,?_⟩
 ·rintro k (rfl | hk)
  ·exact hns
  ·exact h.t.ap k (.inr hk)
 ·exact fun k hs=>⟨fun hb=>(h.t.sl k hs).1 (.inl hb),Nat.lt_of_lt_of_le (h.t.sl k hs).2 hz⟩
 ·rintro k (rfl | hk)
  ·exact h.ml k (.inl rfl)
  ·exact fun hb=>h.t.ml k (.inr hk) (.inl hb)
def TkF (s:Nat) (c0 c1 c2 v n v' n':Value):List Value→World→Prop
 | [],w=>Box w s [c0,c1,c2,v,n] 155
 | [_],w=>Box w s [c0,c1,c2,v',n] 155
 | _::_::_,w=>Box w s [c0,c1,c2,v',n'] 155
structure BmsAt (w:World) (a:Option Addr) (ms:List Bm):Prop where
 c:∀ i (h:i<ms.length),∃ b off,a=some ⟨b,off,none⟩∧∀ j u,(ms[i].c3)[j]? = some u→w.cell? ⟨b,off+i*3+j,none⟩=some u
 r:∀ m∈ms,RecsAt w m.ra m.b.rs
structure BmsIn (B:Nat→Prop) (a:Option Addr) (ms:List Bm):Prop where
 c:ms≠[]→∀ x,a=some x→B x.block
 r:∀ m∈ms,m.b.rs≠[]→∀ x,m.ra=some x→B x.block
theorem BmsAt.chg {B:Nat→Prop}{w w':World}{a:Option Addr}{ms:List Bm}(h:BmsAt w a ms)(hi:BmsIn B a ms)(hc:Chg (Off B) w w'):BmsAt w' a ms:=by
 refine⟨fun i hl=>?_,fun m hm=>(h.r m hm).chg' hc (fun h0 x hx hn=>hn (hi.r m hm h0 x hx))⟩
 obtain⟨b,off,ha,hcell⟩:=h.c i hl
 have hne:ms≠[]:=by intro e;rw[e] at hl;simp at hl
 exact⟨b,off,ha,fun j u hj=>hc.cell (hcell j u hj) (fun hn=>hn (show B b from hi.c hne ⟨b,off,none⟩ ha))⟩
theorem srewrite_any {B:Nat→Prop} {w:World} {p s:Nat} {S:Nat→Prop} {v:Value} {d:Dk} {g:Sg} (h:SgS B w p s S v d g) (hg:g.name.length≤900) (a:Option Addr) (c:Nat) (ms:List Bm) (hms:BmsAt w a ms) (hin:BmsIn B a ms) (hok:∀ m∈ms,m.b.Ok) (hl:ms.length≤99999) :
  Calls Tryz.prog 68 #[.pointer (some ⟨s,0,none⟩),.slice a ms.length c] w fun e w'=>e = .returned (errD (rewL d g (g.name++dotnew) (ms.map Bm.b)).1)∧(∃ S' v',SgS B w' p s S' v' (rewL d g (g.name++dotnew) (ms.map Bm.b)).2.1 (rewL d g (g.name++dotnew) (ms.map Bm.b)).2.2)∧Chg (Off B) w w':=by
 obtain⟨R,hR⟩:∃ R,rewL d g (g.name++dotnew) (ms.map Bm.b)=R:=⟨_,rfl⟩
 rw[hR];have HR:=Lib.hid hR
 have HS:=Lib.hid h
 have HG:=Lib.hid hg
 have HMS:=Lib.hid hms
 have HIN:=Lib.hid hin
 have HOK:=Lib.hid hok
 have c0:=h.m.c.cell (j:=0) rfl
 have c1:=h.m.c.cell (j:=1) rfl
 have c2:=h.m.c.cell (j:=2) rfl
 obtain⟨nm,hnm⟩:∃ nm,g.name++dotnew=nm:=⟨_,rfl⟩
 rw[hnm] at HR;have HNM:=Lib.hid hnm
 have HNL:Hid (nm.length≤904):=by rw[←hnm,List.length_append];show _+4≤904;omega
 have HNS:Hid ((ByteArray.mk nm.toArray).size≤4611686018427387904):=by show nm.toArray.size≤4611686018427387904;simp;have:=HNL.out;omega
 have hcat:ByteArray.mk g.name.toArray++ByteArray.mk #[46,110,101,119]=ByteArray.mk nm.toArray:=ba_eq (by rw[ba_app,←hnm];rfl)
 have HCAT:=Lib.hid hcat
 have hov:¬9223372036854775807<g.name.length+4:=by omega
 have HLM:=Lib.hid hl
 clear h hg hms hin hok hR hnm hcat hl;go_enter Tryz.func68,Tryz.ntmps68
 go_upto_region 1 with fail;refine wp_region_mono _ (Chg Nil) (by kernel_rfl) (fun _ _ _ h k=>h.trans k (fun _ h=>h.elim)) [[],[0],[1],[2],[],[4],[5],[6],[7],[],[9],[10],[11],[3,8,12],[13],[14]] rfl (by kernel_rfl) (Chg.refl _ _).drew ?_
 iterate 3 ((with_reducible apply Walk.eq);case h=>(intro w2 hw2 N hN;simp only[depM];go_simp;(try go_bits);with_reducible exact hN _ (Chg.refl _ _)))
 ((with_reducible apply Walk.eq);case h=>(intro w2 hw2 N hN;have hq:=hw2.cell c0 (fun h=>h);simp only[depM];go_simp;with_reducible exact hN _ (Chg.refl _ _)))
 iterate 3 ((with_reducible apply Walk.eq);case h=>(intro w2 hw2 N hN;simp only[depM];go_simp;(try go_bits);with_reducible exact hN _ (Chg.refl _ _)))
 ((with_reducible apply Walk.eq);case h=>(intro w2 hw2 N hN;have hq:=hw2.cell c1 (fun h=>h);simp only[depM];go_simp;with_reducible exact hN _ (Chg.refl _ _)))
 (with_reducible apply Walk.eq (c:=.string ⟨nm.toArray⟩));case h=>
  intro w2 hw2 N hN;simp only[depM]
  go_simp;rw[HCAT.out];exact hN _ (Chg.refl _ _)
 iterate 3 ((with_reducible apply Walk.eq);case h=>(intro w2 hw2 N hN;simp only[depM];go_simp;(try go_bits);with_reducible exact hN _ (Chg.refl _ _)))
 ((with_reducible apply Walk.eq);case h=>(intro w2 hw2 N hN;have hq:=hw2.cell c2 (fun h=>h);simp only[depM];go_simp;with_reducible exact hN _ (Chg.refl _ _)))
 ((with_reducible apply Walk.eq);case h=>(intro w2 hw2 N hN;simp only[depM];go_simp;(try go_bits);with_reducible exact hN _ (Chg.refl _ _)))
 refine Walk.sat (fun v w'=>∃ b,v = .pointer (some ⟨b,0,none⟩)∧w.heap.size≤b∧Box w' b [.pointer (some ⟨p,0,none⟩),.string ⟨nm.toArray⟩,.int .i64 g.base,.slice none 0 0,.int .i64 0] 155) ?_ rfl ?_ ?_
 ·rintro v w6 w7 ⟨b,rfl,hp,hbx⟩ hc
  exact⟨b,rfl,hp,hbx.chg hc (fun h=>h)⟩
 ·intro w6 hw6 N hN;simp only[depM]
  go_simp;exact hN _ _ ⟨w6.heap.size,rfl,hw6.size,Box.new w6 _ _⟩ ((Chg.refl _ _).alloc _)
 refine Walk.sat (fun v w'=>∃ b,v = .pointer (some ⟨b,0,none⟩)∧w.heap.size≤b∧Box w' b [.pointer (some ⟨p,0,none⟩),.string ⟨nm.toArray⟩,.int .i64 g.base,.slice none 0 0,.int .i64 0] 155) ?_ rfl ?_ ?_
 ·rintro v w6 w7 ⟨b,rfl,hp,hbx⟩ hc
  exact⟨b,rfl,hp,hbx.chg hc (fun h=>h)⟩
 ·intro w6 hw6 N hN;simp only[depM]
  intro v hv;go_simp;exact hN _ _ hv (Chg.refl _ _)
 intro w6 hw6;simp only[List.nil_append,List.cons_append,Fin]
 intro v1 _ v2 h2;refine Exists.elim h2 fun t h2=>?_
 have e2:=h2.1
 have ht:=h2.2.1
 have hbx:=h2.2.2
 clear h2;subst e2;have h0:DsS (fun k=>B k∨SHas s v k) w p S d:=⟨fun k hk=>hk.elim (HS.out.lo k) (HS.out.m.lt k),HS.out.a,fun k hk=>⟨fun h=>h.elim (HS.out.sl k hk).1 (fun h=>HS.out.ap k h hk),(HS.out.sl k hk).2⟩⟩
 have HRW:Hid (RwS B w6 p s t S v (.slice none 0 0) d g ⟨nm,g.base,[],0⟩):=by
  refine⟨h0.seg hw6 ⟨hbx,OwnP.nil _⟩ ?_,HS.out.m.chg hw6 (fun _ _ h=>h),HS.out.ml⟩
  rintro k (rfl | hk)
  ·exact ht
  ·simp[Value.ownBlock] at hk
 have HC6:Hid (Chg (Off B) w w6):=hw6.weak (fun _ h=>h.elim)
 have c0:=hw6.cell c0 (fun h=>h)
 have t1:=hbx.cell (j:=1) rfl
 clear hw6 ht hbx h0 c1 c2 hov;obtain⟨zz,hzz⟩:∃ zz,d.size nm=zz:=⟨_,rfl⟩
 have HSZ:Hid (∀ w',Chg Nil w6 w'→Calls Tryz.prog 89 #[.pointer (some ⟨p,0,none⟩),.string ⟨nm.toArray⟩] w' fun e w''=>e = .returned (.int .i64 zz)∧w'=w''):=by
  intro w' hw';have h1:=size_any (HRW.out.t.a.chg hw' (fun _ _ h=>h)) ⟨nm.toArray⟩ HNS.out
  have h2:d.size (ByteArray.mk nm.toArray).data.toList=zz:=hzz
  rw[h2] at h1;exact h1
 have HZZ:=Lib.hid hzz
 clear hzz;go_simp;go_upto_region 2 with fail;refine wp_region_mono _ (Chg Nil) (by kernel_rfl) (fun _ _ _ h k=>h.trans k (fun _ h=>h.elim)) [[],[0],[1],[2],[],[4],[5],[6],[3,7],[8]] rfl (by kernel_rfl) (Chg.refl _ _).drew ?_
 iterate 3 ((with_reducible apply Walk.eq);case h=>(intro w2 hw2 N hN;simp only[depM];go_simp;(try go_bits);with_reducible exact hN _ (Chg.refl _ _)))
 ((with_reducible apply Walk.eq);case h=>(intro w2 hw2 N hN;have hq:=hw2.cell c0 (fun h=>h);simp only[depM];go_simp;with_reducible exact hN _ (Chg.refl _ _)))
 iterate 3 ((with_reducible apply Walk.eq);case h=>(intro w2 hw2 N hN;simp only[depM];go_simp;(try go_bits);with_reducible exact hN _ (Chg.refl _ _)))
 ((with_reducible apply Walk.eq);case h=>(intro w2 hw2 N hN;have hq:=hw2.cell t1 (fun h=>h);simp only[depM];go_simp;with_reducible exact hN _ (Chg.refl _ _)))
 (with_reducible apply Walk.eq);case h=>
  intro w2 hw2 N hN;simp only[depM]
  go_simp;refine (HSZ.out w2 hw2).mono ?_
  rintro e w4 ⟨rfl,h4⟩
  obtain rfl:=h4.symm
  exact⟨_,rfl,hN _ (Chg.refl _ _)⟩
 (with_reducible apply Walk.eq (c:=.bool (decide (0≤zz))));case h=>
  intro w2 hw2 N hN;simp only[depM]
  go_simp;exact hN _ (Chg.refl _ _)
 intro w7 hw7;simp only[List.nil_append,List.cons_append,Fin]
 have HRW7:=Lib.hid (HRW.out.nil hw7)
 have HC7:=Lib.hid (HC6.out.trans hw7 (fun _ h=>h.elim))
 have c0:=hw7.cell c0 (fun h=>h)
 have t1:=hw7.cell t1 (fun h=>h)
 clear hw7;go_simp;go_upto_if 37 with fail
 go_cut [6] (fun ev wy=>∃ (S1:Nat→Prop) (d1:Dk),RwS B wy p s t S1 v (.slice none 0 0) d1 g ⟨nm,g.base,[],0⟩∧rew1 d1 g nm (ms.map Bm.b)=R∧Chg (Off B) w wy)
 case first=>
  by_cases hz:0≤zz
  ·have hd:decide (0≤zz)=true:=decide_eq_true hz
   rw[hd];have HZ:=Lib.hid hz
   clear hz hd;obtain⟨Q,hQ⟩:∃ Q,d.remove nm=Q:=⟨_,rfl⟩
   have HQ:=Lib.hid hQ
   have HOP:=Lib.hid (fun (w':World) (h:RwS B w' p s t S v (.slice none 0 0) d g ⟨nm,g.base,[],0⟩)=>remove_any h.t.a ⟨nm.toArray⟩ HNS.out)
   clear hQ;go_upto_region 3 with fail;refine Ch.wp_region_chain _ (Chg (S)) [8] (RopF B p s t S v (.slice none 0 0) d g ⟨nm,g.base,[],0⟩ Q) (by kernel_rfl) (fun _=>Chg.refl _ _) (fun _ _ _ h k=>h.trans k (fun _ h=>.inl h)) [[],[0],[1],[2],[],[4],[5],[6],[3,7],[8]] rfl (by kernel_rfl) (by kernel_rfl) (Chg.refl _ _).drew ?_ ?_
   ·exact HRW7.out.nil (Chg.refl Nil _).drew
   iterate 3 ((with_reducible apply Ch.Walk.eq);(case hd=>rfl);(case hi=>rfl);case h=>(intro w2 hw2 N hN;simp only[Ch.depB];go_simp;(try go_bits);with_reducible exact hN _ (Chg.refl _ _) (fun _ h=>h)))
   ((with_reducible apply Ch.Walk.eq);(case hd=>rfl);(case hi=>rfl);case h=>(intro w2 hw2 N hN;(have hq:=hw2.cell c0 (fun h=>(HRW7.out.t.sl s h).1 (.inr (.inl rfl))));simp only[Ch.depB];go_simp;(try go_bits);with_reducible exact hN _ (Chg.refl _ _) (fun _ h=>h)))
   iterate 3 ((with_reducible apply Ch.Walk.eq);(case hd=>rfl);(case hi=>rfl);case h=>(intro w2 hw2 N hN;simp only[Ch.depB];go_simp;(try go_bits);with_reducible exact hN _ (Chg.refl _ _) (fun _ h=>h)))
   ((with_reducible apply Ch.Walk.eq);(case hd=>rfl);(case hi=>rfl);case h=>(intro w2 hw2 N hN;(have hq:=hw2.cell t1 (HRW7.out.t.ap t (.inl rfl)));simp only[Ch.depB];go_simp;(try go_bits);with_reducible exact hN _ (Chg.refl _ _) (fun _ h=>h)))
   refine Ch.Walk.chainE 0 (c:=errD Q.1) rfl rfl ?_ ?_
   ·intro w8 hw8 vs hvs hF N hN;obtain rfl:=List.eq_nil_of_length_eq_zero hvs
    have F3:RwS B w8 p s t S v (.slice none 0 0) d g ⟨nm,g.base,[],0⟩:=hF
    have HO6:=Lib.hid (HOP.out w8 F3)
    have HF3:=Lib.hid F3
    clear F3 hF;simp only[Ch.depB,Ch.depC,Nat.reduceBEq,Nat.reduceAdd]
    go_simp;refine HO6.out.mono ?_
    rintro e w9 ⟨rfl,h2,h3⟩
    have h2:DiskAt w9 p (Gr S w8 w9) (d.remove nm).2:=h2
    have he:errD (d.remove (ByteArray.mk nm.toArray).data.toList).1=errD Q.1:=by show errD (d.remove nm).1=_;rw[HQ.out]
    rw[HQ.out] at h2;rw[he];exact⟨_,rfl,hN _ h3 ⟨_,HF3.out.disk h2 h3⟩⟩
   ((with_reducible apply Ch.Walk.eq);(case hd=>rfl);(case hi=>rfl);case h=>(intro w2 hw2 N hN;simp only[Ch.depB];go_simp;(try go_bits);with_reducible exact hN _ (Chg.refl _ _) (fun _ h=>h)))
   intro w8 hw8;simp only[List.nil_append,List.cons_append,Ch.Fin,List.map_cons,List.map_nil,List.getD_cons_zero,List.getD_cons_succ]
   intro hF;have HF:Hid (∃ S',RwS B w8 p s t S' v (.slice none 0 0) Q.2 g ⟨nm,g.base,[],0⟩):=hF
   have HW8:Hid (Chg (Off (fun k=>B k∨SHas s v k)) w7 w8):=hw8.weak (fun k hk=>.inl (HRW7.out.t.sl k hk).1)
   have HC8:=Lib.hid (HC7.out.trans (RwS.off HW8.out) (fun _ h=>.inl h))
   clear hF hw8 HOP;by_cases hq:Q.1=0
   ·have hev:errD Q.1 = .nilIface:=by rw[hq];rfl
    rw[hev];have HQ0:=Lib.hid hq
    clear hev hq;go_simp;have HR0:Hid (rew1 Q.2 g nm (ms.map Bm.b)=R):=by
     have h1:=HR.out
     unfold rewL rew0 at h1;rw[HZZ.out,if_pos HZ.out,HQ.out,if_pos HQ0.out] at h1
     exact h1
    go_wp2_with fail;go_meet
    case rel=>
     obtain⟨S9,h9⟩:=HF.out
     exact⟨S9,_,h9,HR0.out,HC8.out⟩
   ·have hev:errD Q.1 = .iface 65 (.int .i64 (Q.1:Nat)):=errD_ne hq
    rw[hev];have HQ0:=Lib.hid hq
    clear hev hq;go_simp;have HR0:Hid (R=(Q.1,Q.2,g)):=by
     have h1:=HR.out
     unfold rewL rew0 at h1;rw[HZZ.out,if_pos HZ.out,HQ.out,if_neg HQ0.out] at h1
     exact h1.symm
    go_wp2_with fail;go_ret;obtain⟨S9,h9⟩:=HF.out
    rw[HR0.out];exact⟨congrArg Ending.returned (errD_ne HQ0.out).symm,⟨S9,_,h9.back⟩,HC8.out⟩
  ·have hd:decide (0≤zz)=false:=decide_eq_false hz
   rw[hd];have HR0:Hid (rew1 d g nm (ms.map Bm.b)=R):=by
    have h1:=HR.out
    unfold rewL rew0 at h1;rw[HZZ.out,if_neg hz] at h1
    exact h1
   clear hz hd;go_wp2_with fail;go_meet
   case rel=>exact⟨_,_,HRW7.out,HR0.out,HC7.out⟩
 obtain⟨S1,d1,hrw1,hr1,hc1⟩:=hcut
 have HRW9:=Lib.hid hrw1
 have HR9:=Lib.hid hr1
 have HC9:=Lib.hid hc1
 have c0:=hrw1.m.c.cell (j:=0) rfl
 have t1:=hrw1.t.m.c.cell (j:=1) rfl
 clear hrw1 hr1 hc1 HRW7 HC7;obtain⟨Q,hQ⟩:∃ Q,d1.make nm=Q:=⟨_,rfl⟩
 have HQ:=Lib.hid hQ
 have HOP:=Lib.hid (fun (w':World) (h:RwS B w' p s t S1 v (.slice none 0 0) d1 g ⟨nm,g.base,[],0⟩)=>make_any h.t.a ⟨nm.toArray⟩ HNS.out)
 clear hQ;go_upto_region 6 with fail;refine Ch.wp_region_chain _ (Chg (S1)) [8] (RopF B p s t S1 v (.slice none 0 0) d1 g ⟨nm,g.base,[],0⟩ Q) (by kernel_rfl) (fun _=>Chg.refl _ _) (fun _ _ _ h k=>h.trans k (fun _ h=>.inl h)) [[],[0],[1],[2],[],[4],[5],[6],[3,7],[8]] rfl (by kernel_rfl) (by kernel_rfl) (Chg.refl _ _).drew ?_ ?_
 ·exact HRW9.out.nil (Chg.refl Nil _).drew
 iterate 3 ((with_reducible apply Ch.Walk.eq);(case hd=>rfl);(case hi=>rfl);case h=>(intro w2 hw2 N hN;simp only[Ch.depB];go_simp;(try go_bits);with_reducible exact hN _ (Chg.refl _ _) (fun _ h=>h)))
 ((with_reducible apply Ch.Walk.eq);(case hd=>rfl);(case hi=>rfl);case h=>(intro w2 hw2 N hN;(have hq:=hw2.cell c0 (fun h=>(HRW9.out.t.sl s h).1 (.inr (.inl rfl))));simp only[Ch.depB];go_simp;(try go_bits);with_reducible exact hN _ (Chg.refl _ _) (fun _ h=>h)))
 iterate 3 ((with_reducible apply Ch.Walk.eq);(case hd=>rfl);(case hi=>rfl);case h=>(intro w2 hw2 N hN;simp only[Ch.depB];go_simp;(try go_bits);with_reducible exact hN _ (Chg.refl _ _) (fun _ h=>h)))
 ((with_reducible apply Ch.Walk.eq);(case hd=>rfl);(case hi=>rfl);case h=>(intro w2 hw2 N hN;(have hq:=hw2.cell t1 (HRW9.out.t.ap t (.inl rfl)));simp only[Ch.depB];go_simp;(try go_bits);with_reducible exact hN _ (Chg.refl _ _) (fun _ h=>h)))
 refine Ch.Walk.chainE 0 (c:=errD Q.1) rfl rfl ?_ ?_
 ·intro w8 hw8 vs hvs hF N hN;obtain rfl:=List.eq_nil_of_length_eq_zero hvs
  have F3:RwS B w8 p s t S1 v (.slice none 0 0) d1 g ⟨nm,g.base,[],0⟩:=hF
  have HO6:=Lib.hid (HOP.out w8 F3)
  have HF3:=Lib.hid F3
  clear F3 hF;simp only[Ch.depB,Ch.depC,Nat.reduceBEq,Nat.reduceAdd]
  go_simp;refine HO6.out.mono ?_
  rintro e w9 ⟨rfl,h2,h3⟩
  have h2:DiskAt w9 p (Gr S1 w8 w9) (d1.make nm).2:=h2
  have he:errD (d1.make (ByteArray.mk nm.toArray).data.toList).1=errD Q.1:=by show errD (d1.make nm).1=_;rw[HQ.out]
  rw[HQ.out] at h2;rw[he];exact⟨_,rfl,hN _ h3 ⟨_,HF3.out.disk h2 h3⟩⟩
 ((with_reducible apply Ch.Walk.eq);(case hd=>rfl);(case hi=>rfl);case h=>(intro w2 hw2 N hN;simp only[Ch.depB];go_simp;(try go_bits);with_reducible exact hN _ (Chg.refl _ _) (fun _ h=>h)))
 intro w8 hw8;simp only[List.nil_append,List.cons_append,Ch.Fin,List.map_cons,List.map_nil,List.getD_cons_zero,List.getD_cons_succ]
 intro hF;have HF:Hid (∃ S',RwS B w8 p s t S' v (.slice none 0 0) Q.2 g ⟨nm,g.base,[],0⟩):=hF
 have HW8:Hid (Chg (Off (fun k=>B k∨SHas s v k)) wc w8):=hw8.weak (fun k hk=>.inl (HRW9.out.t.sl k hk).1)
 have HC8:=Lib.hid (HC9.out.trans (RwS.off HW8.out) (fun _ h=>.inl h))
 clear hF hw8 HOP;by_cases hq:Q.1=0
 ·have hev:errD Q.1 = .nilIface:=by rw[hq];rfl
  rw[hev];have HQ0:=Lib.hid hq
  clear hev hq;go_simp;have HR0:Hid (rew2 Q.2 g ⟨nm,g.base,[],0⟩ (ms.map Bm.b)=R):=by
   have h1:=HR9.out
   unfold rew1 at h1;rw[HQ.out,if_pos HQ0.out] at h1
   exact h1
  have hlm:ms.length≤99999:=HLM.out
  clear c0 t1;go_wp2_with fail;go_loopw [64] (fun iv wr=>∃ (wq:World) (i:Nat) (S2:Nat→Prop) (v2:Value) (d2:Dk) (g2:Sg),wq=wr∧i≤ms.length∧iv = .int .i64 i∧RwS B wr p s t S2 v v2 d2 g g2∧Hid (g2.name=nm∧rew2 d2 g g2 ((ms.drop i).map Bm.b)=R∧g2.pls.length≤i∧g2.size≤6000*i)∧Chg (Off B) w wr) (fun iv _=>ms.length-(RowKit.intOf iv).toNat)
  case atStart=>
   obtain⟨S9,h9⟩:=HF.out
   exact⟨_,0,S9,_,_,_,rfl,by omega,rfl,h9,⟨rfl,HR0.out,by simp,by simp⟩,HC8.out⟩
  case round=>
   obtain⟨wr,i,S2,v2,d2,g2,rfl,hi,rfl,hrw,hst,hc⟩:=hrel
   have HRW2:=Lib.hid hrw
   have HST:Hid _:=hst
   have HC:=Lib.hid hc
   clear hrw hst hc;have HMW:=Lib.hid (HMS.out.chg HIN.out HC.out)
   by_cases hil:i<ms.length
   ·have hii:(i:Int)<(ms.length:Int):=by omega
    obtain⟨b,off,rfl,hcell⟩:=HMW.out.c i hil
    obtain⟨m,hm⟩:∃ m,ms[i]=m:=⟨_,rfl⟩
    rw[hm] at hcell;have hmem:m∈ms:=by rw[←hm];exact List.getElem_mem hil
    have HBO:=Lib.hid (HOK.out m hmem)
    have HRC:=Lib.hid (HMW.out.r m hmem)
    have HRB:=Lib.hid (HIN.out.r m hmem)
    have HDR:Hid ((ms.drop i).map Bm.b=m.b::(ms.drop (i+1)).map Bm.b):=by
     show _=_
     rw[List.drop_eq_getElem_cons hil,hm]
     rfl
    have HIL:=Lib.hid hil
    clear hm hmem;obtain⟨⟨bb,be,brs⟩,ra,rc⟩:=m
    have z0:=hcell 0 _ rfl
    have z1:=hcell 1 _ rfl
    have z2:=hcell 2 _ rfl
    rw[Nat.add_zero] at z0;clear hcell;have hal:=(Chg.refl Nil wr).alloc (.cells #[.int .i64 bb,.int .i64 be,.slice ra brs.length rc] 112)
    have hbx:=Box.new wr [.int .i64 bb,.int .i64 be,.slice ra brs.length rc] 112
    go_upto_region 12 with fail;clear z0 z1 z2;have hbx:Box (wr.alloc (.cells #[.int .i64 bb,.int .i64 be,.slice ra brs.length rc] 112)) wr.heap.size [.int .i64 bb,.int .i64 be,.slice ra brs.length rc] 112:=hbx
    have HRW3:=Lib.hid (HRW2.out.nil hal)
    have HC3:=Lib.hid (HC.out.trans hal (fun _ h=>h.elim))
    have HRC3:Hid (RecsAt (wr.alloc (.cells #[.int .i64 bb,.int .i64 be,.slice ra brs.length rc] 112)) ra brs):=RecsAt.chg hal HRC.out (fun _ _ h=>h)
    clear hal;generalize wr.alloc (.cells #[.int .i64 bb,.int .i64 be,.slice ra brs.length rc] 112)=w3 at *
    generalize wr.heap.size=gq at *;have x0:=hbx.cell (j:=0) rfl
    have x1:=hbx.cell (j:=1) rfl
    have x2:=hbx.cell (j:=2) rfl
    have HNUM:=Lib.hid HBO.out.nums
    have HAD:Hid (Calls Tryz.prog 62 #[.pointer (some ⟨t,0,none⟩),.agg #[.int .i64 bb,.int .i64 be,.slice ra brs.length rc]] w3 fun e w'=>
      e = .returned (errD (addSg d2 g2 bb be brs).1)∧(∃ S' v',SgS (fun k=>B k∨SHas s v k) w' p t S' v' (addSg d2 g2 bb be brs).2.1 (addSg d2 g2 bb be brs).2.2)∧Chg (Off (fun k=>B k∨SHas s v k)) w3 w'):=by
     have h1:=HNUM.out.lo
     have h2:=HNUM.out.lt
     have h3:=HNUM.out.hi
     have h4:brs.length≤50:=HNUM.out.few
     have h5:=HST.out.2.2.1
     have h6:=HST.out.2.2.2
     have h7:=HLM.out
     have h8:=HNL.out
     have h1:0≤bb:=h1
     have h2:bb<be:=h2
     have h3:be≤1099511627776:=h3
     exact sadd_any HRW3.out.t (by rw[HST.out.1];omega) (by omega) (by omega) bb be ra brs rc (by omega) (by omega) (by omega) HBO.out.recs HRC3.out (fun h0 x hx hs=>(HRW3.out.t.sl _ hs).1 (.inl (HRB.out h0 x hx))) (fun _=>HNUM.out.len)
    obtain⟨A,hA⟩:∃ A,addSg d2 g2 bb be brs=A:=⟨_,rfl⟩
    have HA:=Lib.hid hA
    rw[hA] at HAD;have HR1:Hid (rew2 d2 g g2 (⟨bb,be,brs⟩::(ms.drop (i+1)).map Bm.b)=R):=by
     have h1:=HST.out.2.1
     rw[HDR.out] at h1;exact h1
    have HAN:Hid (A.2.2.name=g2.name∧A.2.2.pls.length≤g2.pls.length+1∧A.2.2.size≤g2.size+6000):=by
     rw[←hA];have h1:=addSg_more d2 g2 bb be brs
     have h2:(encAll bb be brs).length≤6000:=HNUM.out.len
     exact⟨addSg_name _ _ _ _ _,h1.1,by omega⟩
    clear hA;go_wp2_with fail;refine HAD.out.mono ?_
    rintro e w4 ⟨rfl,h4,hc4⟩
    have HRW4:Hid (∃ S' v',RwS B w4 p s t S' v v' A.2.1 g A.2.2):=by
     obtain⟨S',v',h5⟩:=h4
     exact⟨S',v',HRW3.out.op h5 hc4⟩
    have HC4:=Lib.hid (HC3.out.trans (RwS.off hc4) (fun _ h=>.inl h))
    clear h4 hc4 HAD x0 x1 x2 hbx;by_cases ha:A.1=0
    ·have hev:errD A.1 = .nilIface:=by rw[ha];rfl
     rw[hev];have HR2:Hid (rew2 A.2.1 g A.2.2 ((ms.drop (i+1)).map Bm.b)=R):=by
      have h1:=HR1.out
      unfold rew2 at h1;simp only at h1
      rw[HA.out,if_pos ha] at h1
      exact h1
     clear hev ha;go_wp2_with fail;go_roundw
     case rel=>
      obtain⟨S',v',h5⟩:=HRW4.out
      have h6:=HAN.out
      have h7:=HST.out
      exact⟨_,i+1,S',v',_,_,rfl,HIL.out,by go_num,h5,⟨h6.1.trans h7.1,HR2.out,by omega,by omega⟩,HC4.out⟩
     case measure=>exact meas_two HIL.out
    ·have hev:errD A.1 = .iface 65 (.int .i64 (A.1:Nat)):=errD_ne ha
     rw[hev];have HR2:Hid (R=(A.1,(A.2.1.remove A.2.2.name).2,g)):=by
      have h1:=HR1.out
      unfold rew2 at h1;simp only at h1
      rw[HA.out,if_neg ha] at h1
      rw[HAN.out.1];exact h1.symm
     have HAW:Hid (Calls Tryz.prog 107 #[.pointer (some ⟨t,0,none⟩),.iface 65 (.int .i64 (A.1:Nat))] w4 fun e w'=>e = .returned (errD A.1)∧(∃ S' v',RwS B w' p s t S' v v' (A.2.1.remove A.2.2.name).2 g A.2.2)∧Chg (Off (fun k=>B k∨SHas s v k)) w4 w'):=by
      obtain⟨S',v',h5⟩:=HRW4.out
      refine (saway_any h5.t (by rw[HAN.out.1,HST.out.1];have:=HNL.out;omega) A.1 ha).mono ?_
      rintro e w' ⟨h1,⟨S9,h2⟩,h3⟩
      exact⟨h1,⟨S9,v',h5.op h2 h3⟩,h3⟩
     clear hev ha;go_wp2_with fail;refine HAW.out.mono ?_
     rintro e w5 ⟨rfl,h5,hc5⟩
     have H5:=Lib.hid h5
     have HC5:=Lib.hid hc5
     clear h5 hc5 HAW;generalize hev9:errD A.1=ev9
     go_wp2_with fail;go_ret;obtain⟨S9,v9,h9⟩:=H5.out
     rw[HR2.out];exact⟨by rw[←hev9];rfl,⟨S9,_,h9.back⟩,HC4.out.trans (RwS.off HC5.out) (fun _ h=>.inl h)⟩
   ·have hii:¬(i:Int)<(ms.length:Int):=by omega
    have HR1:Hid (rew3 d2 g g2=R):=by
     have h1:=HST.out.2.1
     rw[List.drop_eq_nil_of_le (by omega)] at h1
     exact h1
    have HGN2:Hid (g2.name=nm):=HST.out.1
    have HSY:Hid (Calls Tryz.prog 56 #[.pointer (some ⟨t,0,none⟩)] wr fun e w'=>e = .returned (errD (d2.sync g2.name).1)∧(∃ S',RwS B w' p s t S' v v2 (d2.sync g2.name).2 g g2)∧Chg (Off (fun k=>B k∨SHas s v k)) wr w'):=by
     refine (ssync_any HRW2.out.t (by rw[HST.out.1];have:=HNL.out;omega)).mono ?_
     rintro e w' ⟨h1,⟨S9,h2⟩,h3⟩
     exact⟨h1,⟨S9,HRW2.out.op h2 h3⟩,h3⟩
    obtain⟨A,hA⟩:∃ A,d2.sync g2.name=A:=⟨_,rfl⟩
    have HA:=Lib.hid hA
    rw[hA] at HSY;clear hA;go_wp2_with fail;refine HSY.out.mono ?_
    rintro e w4 ⟨rfl,h4,hc4⟩
    have HRW4:=Lib.hid h4
    have HC4:=Lib.hid (HC.out.trans (RwS.off hc4) (fun _ h=>.inl h))
    clear h4 hc4 HSY;by_cases ha:A.1=0
    ·have hev:errD A.1 = .nilIface:=by rw[ha];rfl
     rw[hev];have HR2:Hid (rew4 A.2 g g2=R):=by
      have h1:=HR1.out
      unfold rew3 at h1;rw[HA.out,if_pos ha] at h1
      exact h1
     clear hev ha;refine Exists.elim HRW4.out fun S4 h4=>?_
     have HRWS:=Lib.hid h4
     have c0:=h4.m.c.cell (j:=0) rfl
     have c1:=h4.m.c.cell (j:=1) rfl
     have t1:=h4.t.m.c.cell (j:=1) rfl
     rw[HGN2.out] at t1;have HGS:Hid ((ByteArray.mk g.name.toArray).size≤4611686018427387904):=by show g.name.toArray.size≤4611686018427387904;simp;have:=HG.out;omega
     clear h4;go_wp2_with fail;obtain⟨Q,hQ⟩:∃ Q,A.2.rename nm g.name=Q:=⟨_,rfl⟩
     have HQ:=Lib.hid hQ
     have HOP:=Lib.hid (fun (w':World) (h:RwS B w' p s t S4 v v2 A.2 g g2)=>rename_any h.t.a ⟨nm.toArray⟩ ⟨g.name.toArray⟩ HNS.out HGS.out)
     clear hQ;go_upto_region 19 with fail;refine Ch.wp_region_chain _ (Chg (S4)) [12] (RopF B p s t S4 v v2 A.2 g g2 Q) (by kernel_rfl) (fun _=>Chg.refl _ _) (fun _ _ _ h k=>h.trans k (fun _ h=>.inl h)) [[],[0],[1],[2],[],[4],[5],[6],[],[8],[9],[10],[3,7,11],[12]] rfl (by kernel_rfl) (by kernel_rfl) (Chg.refl _ _).drew ?_ ?_
     ·exact HRWS.out.nil (Chg.refl Nil _).drew
     iterate 3 ((with_reducible apply Ch.Walk.eq);(case hd=>rfl);(case hi=>rfl);case h=>(intro w2 hw2 N hN;simp only[Ch.depB];go_simp;(try go_bits);with_reducible exact hN _ (Chg.refl _ _) (fun _ h=>h)))
     ((with_reducible apply Ch.Walk.eq);(case hd=>rfl);(case hi=>rfl);case h=>(intro w2 hw2 N hN;(have hq:=hw2.cell c0 (fun h=>(HRWS.out.t.sl s h).1 (.inr (.inl rfl))));simp only[Ch.depB];go_simp;(try go_bits);with_reducible exact hN _ (Chg.refl _ _) (fun _ h=>h)))
     iterate 3 ((with_reducible apply Ch.Walk.eq);(case hd=>rfl);(case hi=>rfl);case h=>(intro w2 hw2 N hN;simp only[Ch.depB];go_simp;(try go_bits);with_reducible exact hN _ (Chg.refl _ _) (fun _ h=>h)))
     ((with_reducible apply Ch.Walk.eq);(case hd=>rfl);(case hi=>rfl);case h=>(intro w2 hw2 N hN;(have hq:=hw2.cell t1 (HRWS.out.t.ap t (.inl rfl)));simp only[Ch.depB];go_simp;(try go_bits);with_reducible exact hN _ (Chg.refl _ _) (fun _ h=>h)))
     iterate 3 ((with_reducible apply Ch.Walk.eq);(case hd=>rfl);(case hi=>rfl);case h=>(intro w2 hw2 N hN;simp only[Ch.depB];go_simp;(try go_bits);with_reducible exact hN _ (Chg.refl _ _) (fun _ h=>h)))
     ((with_reducible apply Ch.Walk.eq);(case hd=>rfl);(case hi=>rfl);case h=>(intro w2 hw2 N hN;(have hq:=hw2.cell c1 (fun h=>(HRWS.out.t.sl s h).1 (.inr (.inl rfl))));simp only[Ch.depB];go_simp;(try go_bits);with_reducible exact hN _ (Chg.refl _ _) (fun _ h=>h)))
     refine Ch.Walk.chainE 0 (c:=errD Q.1) rfl rfl ?_ ?_
     ·intro w8 hw8 vs hvs hF N hN;obtain rfl:=List.eq_nil_of_length_eq_zero hvs
      have F3:RwS B w8 p s t S4 v v2 A.2 g g2:=hF
      have HO6:=Lib.hid (HOP.out w8 F3)
      have HF3:=Lib.hid F3
      clear F3 hF;simp only[Ch.depB,Ch.depC,Nat.reduceBEq,Nat.reduceAdd]
      go_simp;refine HO6.out.mono ?_
      rintro e w9 ⟨rfl,h2,h3⟩
      have h2:DiskAt w9 p (Gr S4 w8 w9) (A.2.rename nm g.name).2:=h2
      have he:errD (A.2.rename (ByteArray.mk nm.toArray).data.toList (ByteArray.mk g.name.toArray).data.toList).1=errD Q.1:=by show errD (A.2.rename nm g.name).1=_;rw[HQ.out]
      rw[HQ.out] at h2;rw[he];exact⟨_,rfl,hN _ h3 ⟨_,HF3.out.disk h2 h3⟩⟩
     ((with_reducible apply Ch.Walk.eq);(case hd=>rfl);(case hi=>rfl);case h=>(intro w2 hw2 N hN;simp only[Ch.depB];go_simp;(try go_bits);with_reducible exact hN _ (Chg.refl _ _) (fun _ h=>h)))
     intro w8 hw8;simp only[List.nil_append,List.cons_append,Ch.Fin,List.map_cons,List.map_nil,List.getD_cons_zero,List.getD_cons_succ]
     intro hF;have HF:Hid (∃ S',RwS B w8 p s t S' v v2 Q.2 g g2):=hF
     have HW8:Hid (Chg (Off (fun k=>B k∨SHas s v k)) w4 w8):=hw8.weak (fun k hk=>.inl (HRWS.out.t.sl k hk).1)
     have HC8:=Lib.hid (HC4.out.trans (RwS.off HW8.out) (fun _ h=>.inl h))
     clear hF hw8 HOP;by_cases hq:Q.1=0
     ·have hev:errD Q.1 = .nilIface:=by rw[hq];rfl
      rw[hev];have HQ0:=Lib.hid hq
      clear hev hq;go_simp;have HR3:Hid (R=(0,Q.2,{ g with pls:=g2.pls,size:=g2.size })):=by
       have h1:=HR2.out
       unfold rew4 at h1;rw[HGN2.out,HQ.out,if_pos HQ0.out] at h1
       exact h1.symm
      refine Exists.elim HF.out fun S9 h9=>?_
      have HRW9:=Lib.hid h9
      have hvt:=h9.t.m.o.form
      generalize vA v2=a2 at hvt;generalize vC v2=e2 at hvt;have t3:=h9.t.m.c.cell (j:=3) rfl
      have t4:=h9.t.m.c.cell (j:=4) rfl
      have HTS:Hid (¬t=s):=fun e=>h9.t.ml t (.inl rfl) (.inr (.inl e))
      have HBS:=Lib.hid h9.m.c
      subst hvt;clear h9 c0 c1 t1;go_wp2_with fail;go_upto_region 22 with fail;refine Ch.wp_region_chain _ (Chg (fun k=>k=s)) [12,15] (TkF s (.pointer (some ⟨p,0,none⟩)) (.string ⟨g.name.toArray⟩) (.int .i64 g.base) v (.int .i64 (g.size:Nat)) (.slice a2 g2.pls.length e2) (.int .i64 (g2.size:Nat))) (by kernel_rfl) (fun _=>Chg.refl _ _) (fun _ _ _ h k=>h.trans k (fun _ h=>.inl h)) [[],[],[],[2],[3],[4],[],[6],[7],[8],[0],[10],[5,11],[1],[13],[9,14]] rfl (by kernel_rfl) (by kernel_rfl) (Chg.refl _ _).drew ?_ ?_
      ·exact HBS.out.chg (Chg.refl Nil _).drew (fun h=>h)
      iterate 5 ((with_reducible apply Ch.Walk.eq);(case hd=>rfl);(case hi=>rfl);case h=>(intro w2 hw2 N hN;simp only[Ch.depB];go_simp;(try go_bits);with_reducible exact hN _ (Chg.refl _ _) (fun _ h=>h)))
      ((with_reducible apply Ch.Walk.eq);(case hd=>rfl);(case hi=>rfl);case h=>(intro w2 hw2 N hN;(have hq:=hw2.cell t3 HTS.out);simp only[Ch.depB];go_simp;(try go_bits);with_reducible exact hN _ (Chg.refl _ _) (fun _ h=>h)))
      iterate 3 ((with_reducible apply Ch.Walk.eq);(case hd=>rfl);(case hi=>rfl);case h=>(intro w2 hw2 N hN;simp only[Ch.depB];go_simp;(try go_bits);with_reducible exact hN _ (Chg.refl _ _) (fun _ h=>h)))
      ((with_reducible apply Ch.Walk.eq);(case hd=>rfl);(case hi=>rfl);case h=>(intro w2 hw2 N hN;(have hq:=hw2.cell t4 HTS.out);simp only[Ch.depB];go_simp;(try go_bits);with_reducible exact hN _ (Chg.refl _ _) (fun _ h=>h)))
      iterate 2 ((with_reducible apply Ch.Walk.eq);(case hd=>rfl);(case hi=>rfl);case h=>(intro w2 hw2 N hN;simp only[Ch.depB];go_simp;(try go_bits);with_reducible exact hN _ (Chg.refl _ _) (fun _ h=>h)))
      simp only[List.nil_append,List.cons_append]
      refine Ch.Walk.chainS 0 rfl rfl ?_ ?_
      ·intro w9 hw9 vs hvs hF N hN;obtain rfl:=List.eq_nil_of_length_eq_zero hvs
       have hb:Box w9 s [.pointer (some ⟨p,0,none⟩),.string ⟨g.name.toArray⟩,.int .i64 g.base,v,.int .i64 (g.size:Nat)] 155:=hF
       have b3:=hb.cell (j:=3) rfl
       have f3:=hb.free 3
       have HB:=Lib.hid (hb.set 3 (.slice a2 g2.pls.length e2))
       clear hb hF;simp only[Ch.depB,Ch.depC,Nat.reduceBEq,Nat.reduceAdd]
       go_simp;exact hN _ ((Chg.refl (fun k=>k=s) w9).setCell (p:=⟨s,3,none⟩) (.inl rfl) _) HB.out
      simp only[List.nil_append,List.cons_append]
      iterate 2 ((with_reducible apply Ch.Walk.eq);(case hd=>rfl);(case hi=>rfl);case h=>(intro w2 hw2 N hN;simp only[Ch.depB];go_simp;(try go_bits);with_reducible exact hN _ (Chg.refl _ _) (fun _ h=>h)))
      simp only[List.nil_append,List.cons_append]
      refine Ch.Walk.chainSx (fun x:Value=>x) (fun _ w9=>Box w9 s [.pointer (some ⟨p,0,none⟩),.string ⟨g.name.toArray⟩,.int .i64 g.base,.slice a2 g2.pls.length e2,.int .i64 (g.size:Nat)] 155) (fun x _ h=>⟨x,rfl,h⟩) rfl rfl ?_ ?_
      ·intro w9 hw9 x hb N hN;have b4:=hb.cell (j:=4) rfl
       have f4:=hb.free 4
       have HB:=Lib.hid (hb.set 4 (.int .i64 (g2.size:Nat)))
       clear hb;simp only[Ch.depB,Ch.depC,Nat.reduceBEq,Nat.reduceAdd]
       go_simp;exact hN _ ((Chg.refl (fun k=>k=s) w9).setCell (p:=⟨s,4,none⟩) (.inl rfl) _) HB.out
      intro w9 hw9;simp only[List.nil_append,List.cons_append,Ch.Fin,List.map_cons,List.map_nil,List.getD_cons_zero,List.getD_cons_succ]
      intro hF;have HB9:Hid (Box w9 s [.pointer (some ⟨p,0,none⟩),.string ⟨g.name.toArray⟩,.int .i64 g.base,.slice a2 g2.pls.length e2,.int .i64 (g2.size:Nat)] 155):=hF
      have HW9:=Lib.hid hw9
      clear hF hw9 t3 t4;go_simp;go_wp2_with fail;go_ret;rw[HR3.out];exact⟨rfl,⟨S9,_,HRW9.out.taken HW9.out HB9.out⟩,HC8.out.trans HW9.out (fun k hk=>.inl (by rw[hk];exact HRW9.out.ml s (.inl rfl)))⟩
     ·have hev:errD Q.1 = .iface 65 (.int .i64 (Q.1:Nat)):=errD_ne hq
      rw[hev];have HQ0:=Lib.hid hq
      clear hev hq;go_simp;have HR3:Hid (R=(Q.1,(Q.2.remove g2.name).2,g)):=by
       have h1:=HR2.out
       unfold rew4 at h1;rw[HGN2.out,HQ.out,if_neg HQ0.out] at h1
       rw[HGN2.out];exact h1.symm
      have HAW:Hid (Calls Tryz.prog 107 #[.pointer (some ⟨t,0,none⟩),.iface 65 (.int .i64 (Q.1:Nat))] w8 fun e w'=>e = .returned (errD Q.1)∧(∃ S' v',RwS B w' p s t S' v v' (Q.2.remove g2.name).2 g g2)∧Chg (Off (fun k=>B k∨SHas s v k)) w8 w'):=by
       obtain⟨S',h5⟩:=HF.out
       refine (saway_any h5.t (by rw[HGN2.out];have:=HNL.out;omega) Q.1 HQ0.out).mono ?_
       rintro e w' ⟨h1,⟨S9,h2⟩,h3⟩
       exact⟨h1,⟨S9,_,h5.op h2 h3⟩,h3⟩
      go_wp2_with fail;refine HAW.out.mono ?_
      rintro e w5 ⟨rfl,h5,hc5⟩
      have H5:=Lib.hid h5
      have HC5:=Lib.hid hc5
      clear h5 hc5 HAW;generalize hev9:errD Q.1=ev9
      go_wp2_with fail;go_ret;obtain⟨S9,v9,h9⟩:=H5.out
      rw[HR3.out];exact⟨by rw[←hev9];rfl,⟨S9,_,h9.back⟩,HC8.out.trans (RwS.off HC5.out) (fun _ h=>.inl h)⟩
    ·have hev:errD A.1 = .iface 65 (.int .i64 (A.1:Nat)):=errD_ne ha
     rw[hev];have HR2:Hid (R=(A.1,(A.2.remove g2.name).2,g)):=by
      have h1:=HR1.out
      unfold rew3 at h1;rw[HA.out,if_neg ha] at h1
      exact h1.symm
     have HAW:Hid (Calls Tryz.prog 107 #[.pointer (some ⟨t,0,none⟩),.iface 65 (.int .i64 (A.1:Nat))] w4 fun e w'=>e = .returned (errD A.1)∧(∃ S' v',RwS B w' p s t S' v v' (A.2.remove g2.name).2 g g2)∧Chg (Off (fun k=>B k∨SHas s v k)) w4 w'):=by
      obtain⟨S',h5⟩:=HRW4.out
      refine (saway_any h5.t (by rw[HGN2.out];have:=HNL.out;omega) A.1 ha).mono ?_
      rintro e w' ⟨h1,⟨S9,h2⟩,h3⟩
      exact⟨h1,⟨S9,_,h5.op h2 h3⟩,h3⟩
     clear hev ha;go_wp2_with fail;refine HAW.out.mono ?_
     rintro e w5 ⟨rfl,h5,hc5⟩
     have H5:=Lib.hid h5
     have HC5:=Lib.hid hc5
     clear h5 hc5 HAW;generalize hev9:errD A.1=ev9
     go_wp2_with fail;go_ret;obtain⟨S9,v9,h9⟩:=H5.out
     rw[HR2.out];exact⟨by rw[←hev9];rfl,⟨S9,_,h9.back⟩,HC4.out.trans (RwS.off HC5.out) (fun _ h=>.inl h)⟩
 ·have hev:errD Q.1 = .iface 65 (.int .i64 (Q.1:Nat)):=errD_ne hq
  rw[hev];have HQ0:=Lib.hid hq
  clear hev hq;go_simp;have HR0:Hid (R=(Q.1,Q.2,g)):=by
   have h1:=HR9.out
   unfold rew1 at h1;rw[HQ.out,if_neg HQ0.out] at h1
   exact h1.symm
  go_wp2_with fail;go_ret;obtain⟨S9,h9⟩:=HF.out
  rw[HR0.out];exact⟨congrArg Ending.returned (errD_ne HQ0.out).symm,⟨S9,_,h9.back⟩,HC8.out⟩
end Go.Proofs.YtdjmifaidgbbaaaGreatDoor
