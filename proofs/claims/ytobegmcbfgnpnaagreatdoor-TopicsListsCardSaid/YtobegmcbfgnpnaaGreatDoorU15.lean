/-
  A segment in memory: note.
-/
import Derived.Test.YtobegmcbfgnpnaaGreatDoorU14
set_option linter.unusedVariables false
set_option linter.unusedSimpArgs false
set_option maxHeartbeats 0
set_option maxRecDepth 200000
namespace Go.Proofs.YtobegmcbfgnpnaaGreatDoor
open Go.RowKit
def timeOf (l:List Rec):Int:=l.foldl (fun t r=>max t r.time) (-1)
theorem time_snoc (l:List Rec) {i:Nat}(hi:i<l.length):timeOf (l.take (i+1))=max (timeOf (l.take i)) l[i].time:=by
 unfold timeOf;rw[List.take_succ_eq_append_getElem hi,List.foldl_append]
 rfl
def Sg.noted (g:Sg) (base en:Int) (rs:List Rec) (size:Nat):Sg:={ g with pls:=g.pls++[⟨g.size,size,base,en,timeOf rs⟩],size:=g.size+size }
def PapF (n0:Nat) (u:Value) (l:List Pl) (r:Pl):List Value→World→Prop
 | [],w=>OwnP w u l
 | [v],w=>OwnP w u l∧∃ q,v = .slice (some ⟨q,0,none⟩) 1 1∧Box w q r.cells 226
 | [_,v],w=>OwnP w v (l++[r])∧∀ k,v.ownBlock=some k→u.ownBlock=some k∨n0≤k
 | _,_=>False
theorem snote_any {w:World} {s p:Nat} {v:Value} {g:Sg} (h:Sm w s p v g) (hn:g.pls.length≤100000) (base en:Int) (ra:Option Addr) (rs:List Rec) (rc:Nat) (hrs:RecsAt w ra rs) (hrl:rs.length≤1000000)
  (size:Nat) (hsz:g.size+size≤4611686018427387904) :
  Calls Tryz.prog 141 #[.pointer (some ⟨s,0,none⟩),.agg #[.int .i64 base,.int .i64 en,.slice ra rs.length rc],.int .i64 (size:Nat)] w fun e w'=>
   e = .returned (.tuple #[])∧∃ v',Sm w' s p v' (g.noted base en rs size)∧Chg (SHas s v) w w'∧∀ k,SHas s v' k→SHas s v k∨w.heap.size≤k:=by
 have hbx:=Box.new w [.int .i64 base,.int .i64 en,.slice ra rs.length rc] 142
 have hal:=(Chg.refl Nil w).alloc (.cells #[.int .i64 base,.int .i64 en,.slice ra rs.length rc] 142)
 have HM:=Lib.hid h
 have HM1:=Lib.hid (h.chg hal (fun _ _ h=>h))
 have HRS:=Lib.hid hrs
 have HN:=Lib.hid hn
 have HSZ:=Lib.hid hsz
 have c4:=HM1.out.c.cell (j:=4) rfl
 clear h hrs hn;go_enter Tryz.func141,Tryz.ntmps141
 go_upto_region 1 with fail;have hbx:Box (w.alloc (.cells #[.int .i64 base,.int .i64 en,.slice ra rs.length rc] 142)) w.heap.size [.int .i64 base,.int .i64 en,.slice ra rs.length rc] 142:=hbx
 have hs1:(w.alloc (.cells #[.int .i64 base,.int .i64 en,.slice ra rs.length rc] 142)).heap.size=w.heap.size+1:=by rw[World.size_alloc]
 generalize w.alloc (.cells #[.int .i64 base,.int .i64 en,.slice ra rs.length rc] 142)=w1 at *;obtain⟨gx,hgx⟩:∃ gx,w.heap.size=gx:=⟨_,rfl⟩
 rw[hgx] at hbx hs1
 rw[hgx];have HGX:=Lib.hid hgx
 have HAL:=Lib.hid hal
 have HS1:=Lib.hid hs1
 have HBX:=Lib.hid hbx
 have x0:=hbx.cell (j:=0) rfl
 have x1:=hbx.cell (j:=1) rfl
 clear hgx hal hs1 hbx hsz;refine Ch.wp_region_last _ _ rfl (Chg (Nil)) [] (fun _ _=>True) (by kernel_rfl) (fun _=>Chg.refl _ _) (fun _ _ _ h k=>h.trans k (fun _ h=>.inl h)) [[],[0],[1],[2],[],[],[5],[],[7],[3,4,6,8],[]] rfl (by kernel_rfl) (by kernel_rfl) (by kernel_rfl) (Chg.refl _ _).drew ?_ ?_
 ·trivial
 simp only[List.dropLast_cons_cons,List.dropLast_singleton]
 iterate 3 ((with_reducible apply Ch.Walk.eq);(case hd=>rfl);(case hi=>rfl);case h=>(intro w2 hw2 N hN;simp only[Ch.depB];go_simp;(try go_bits);with_reducible exact hN _ (Chg.refl _ _) (fun _ h=>h)))
 ((with_reducible apply Ch.Walk.eq);(case hd=>rfl);(case hi=>rfl);case h=>(intro w2 hw2 N hN;(have hq:=hw2.cell c4 (fun h=>h));simp only[Ch.depB];go_simp;(try go_bits);with_reducible exact hN _ (Chg.refl _ _) (fun _ h=>h)))
 iterate 2 ((with_reducible apply Ch.Walk.eq);(case hd=>rfl);(case hi=>rfl);case h=>(intro w2 hw2 N hN;simp only[Ch.depB];go_simp;(try go_bits);with_reducible exact hN _ (Chg.refl _ _) (fun _ h=>h)))
 ((with_reducible apply Ch.Walk.eq);(case hd=>rfl);(case hi=>rfl);case h=>(intro w2 hw2 N hN;(have hq:=hw2.cell x0 (fun h=>h));simp only[Ch.depB];go_simp;(try go_bits);with_reducible exact hN _ (Chg.refl _ _) (fun _ h=>h)))
 ((with_reducible apply Ch.Walk.eq);(case hd=>rfl);(case hi=>rfl);case h=>(intro w2 hw2 N hN;simp only[Ch.depB];go_simp;(try go_bits);with_reducible exact hN _ (Chg.refl _ _) (fun _ h=>h)))
 ((with_reducible apply Ch.Walk.eq);(case hd=>rfl);(case hi=>rfl);case h=>(intro w2 hw2 N hN;(have hq:=hw2.cell x1 (fun h=>h));simp only[Ch.depB];go_simp;(try go_bits);with_reducible exact hN _ (Chg.refl _ _) (fun _ h=>h)))
 ((with_reducible apply Ch.Walk.eq);(case hd=>rfl);(case hi=>rfl);case h=>(intro w2 hw2 N hN;simp only[Ch.depB];go_simp;(try go_bits);with_reducible exact hN _ (Chg.refl _ _) (fun _ h=>h)))
 refine Ch.Walk.sat (fun v w=>∃ b,v = .pointer (some ⟨b,0,none⟩)∧w1.heap.size≤b∧Box w b [.int .i64 0,.int .i64 0,.int .i64 0,.int .i64 0,.int .i64 0] 226) ?_ rfl rfl ?_ ?_
 ·rintro v w6 w7 ⟨b,rfl,hp,hbx⟩ hc
  exact⟨b,rfl,hp,hbx.chg hc (fun h=>h)⟩
 ·intro w6 hw6 N hN;simp only[Ch.depB,Ch.depC,Nat.reduceBEq,Nat.reduceAdd]
  go_simp;exact hN _ _ ⟨w6.heap.size,rfl,hw6.size,Box.new w6 [.int .i64 0,.int .i64 0,.int .i64 0,.int .i64 0,.int .i64 0] 226⟩ ((Chg.refl _ _).alloc _) (fun vs hF=>trivial)
 intro w6 hw6;simp only[List.nil_append,List.cons_append,Ch.Fin,List.map_cons,List.map_nil,List.getD_cons_zero,List.getD_cons_succ]
 rintro v9 ⟨b,rfl,hp,hbp⟩ _
 simp only[Ch.Then,Oper.wp]
 have b0:=hbp.cell (j:=0) rfl
 have f0:=hbp.free 0
 have b1:=hbp.cell (j:=1) rfl
 have f1:=hbp.free 1
 have b2:=hbp.cell (j:=2) rfl
 have f2:=hbp.free 2
 have b3:=hbp.cell (j:=3) rfl
 have f3:=hbp.free 3
 have b4:=hbp.cell (j:=4) rfl
 have f4:=hbp.free 4
 go_simp;have hb9:Box (((((w6.setCell ⟨b,0,none⟩ (.int .i64 (g.size:Nat))).setCell ⟨b,1,none⟩ (.int .i64 (size:Nat))).setCell ⟨b,2,none⟩ (.int .i64 base)).setCell ⟨b,3,none⟩ (.int .i64 en)).setCell ⟨b,4,none⟩ (.int .i64 (-1))) b [.int .i64 (g.size:Nat),.int .i64 (size:Nat),.int .i64 base,.int .i64 en,.int .i64 (-1)] 226:=((((hbp.set 0 _).set 1 _).set 2 _).set 3 _).set 4 _
 have hcs:Chg Nil w1 (((((w6.setCell ⟨b,0,none⟩ (.int .i64 (g.size:Nat))).setCell ⟨b,1,none⟩ (.int .i64 (size:Nat))).setCell ⟨b,2,none⟩ (.int .i64 base)).setCell ⟨b,3,none⟩ (.int .i64 en)).setCell ⟨b,4,none⟩ (.int .i64 (-1))):=
  ((((hw6.setCell (.inr hp) _).setCell (.inr hp) _).setCell (.inr hp) _).setCell (.inr hp) _).setCell (.inr hp) _
 clear b0 b1 b2 b3 b4 f0 f1 f2 f3 f4 hbp hw6;generalize (((((w6.setCell ⟨b,0,none⟩ (.int .i64 (g.size:Nat))).setCell ⟨b,1,none⟩ (.int .i64 (size:Nat))).setCell ⟨b,2,none⟩ (.int .i64 base)).setCell ⟨b,3,none⟩ (.int .i64 en)).setCell ⟨b,4,none⟩ (.int .i64 (-1)))=w2 at *
 have HB:=Lib.hid hb9
 have HCS:=Lib.hid hcs
 have HPB:=Lib.hid hp
 have x2:=hcs.cell (HBX.out.cell (j:=2) rfl) (fun h=>h)
 clear hb9 hcs hp c4 x0 x1;go_wp2_with fail;go_loopw [22] (fun ii wr=>∃ (wq:World) (i:Nat),wq=wr∧i≤rs.length∧ii = .int .i64 i∧Box wr b [.int .i64 (g.size:Nat),.int .i64 (size:Nat),.int .i64 base,.int .i64 en,.int .i64 (timeOf (rs.take i))] 226∧Chg Nil w1 wr) (fun ii _=>rs.length-(RowKit.intOf ii).toNat)
 case atStart=>exact⟨_,0,rfl,by omega,rfl,HB.out,HCS.out⟩
 case round=>
  obtain⟨wr,i,rfl,hi,rfl,hb,hc⟩:=hrel
  have HBR:=Lib.hid hb
  have HC:=Lib.hid hc
  clear hb hc;by_cases hil:i<rs.length
  ·have hii:(i:Int)<(rs.length:Int):=by omega
   have hi64:wrap64 ((i:Int)+1)=(i:Int)+1:=by unfold wrap64;omega
   obtain⟨rb,off,rfl,hcell⟩:=HRS.out i hil
   have HNX:=Lib.hid (time_snoc rs hil)
   obtain⟨u,hu⟩:∃ u,timeOf (rs.take i)=u:=⟨_,rfl⟩
   rw[hu] at HNX HBR
   obtain⟨q,hq⟩:∃ q,q=rs[i]:=⟨_,rfl⟩
   rw[←hq] at hcell HNX
   clear hu hq;obtain⟨qo,qt,qk,qkey,qg,qv⟩:=q
   have z0:=HC.out.cell (HAL.out.cell (hcell 0 _ rfl) (fun h=>h)) (fun h=>h)
   have z1:=HC.out.cell (HAL.out.cell (hcell 1 _ rfl) (fun h=>h)) (fun h=>h)
   have z2:=HC.out.cell (HAL.out.cell (hcell 2 _ rfl) (fun h=>h)) (fun h=>h)
   have z3:=HC.out.cell (HAL.out.cell (hcell 3 _ rfl) (fun h=>h)) (fun h=>h)
   have z4:=HC.out.cell (HAL.out.cell (hcell 4 _ rfl) (fun h=>h)) (fun h=>h)
   have z5:=HC.out.cell (HAL.out.cell (hcell 5 _ rfl) (fun h=>h)) (fun h=>h)
   rw[Nat.add_zero] at z0;clear hcell;have hbr:=Box.new wr [.int .i64 qo,.int .i64 qt,.bool qk,.string qkey,.bool qg,.string qv] 61
   have halr:=(Chg.refl Nil wr).alloc (.cells #[.int .i64 qo,.int .i64 qt,.bool qk,.string qkey,.bool qg,.string qv] 61)
   go_upto_region 5 with fail;clear z0 z1 z2 z3 z4 z5;have hbr:Box (wr.alloc (.cells #[.int .i64 qo,.int .i64 qt,.bool qk,.string qkey,.bool qg,.string qv] 61)) wr.heap.size [.int .i64 qo,.int .i64 qt,.bool qk,.string qkey,.bool qg,.string qv] 61:=hbr
   have HC2:=Lib.hid (HC.out.trans halr (fun _ h=>h.elim))
   have HB2:=Lib.hid (HBR.out.chg halr (fun h=>h))
   generalize wr.alloc (.cells #[.int .i64 qo,.int .i64 qt,.bool qk,.string qkey,.bool qg,.string qv] 61)=w4 at *;generalize wr.heap.size=g4 at *
   have y1:=hbr.cell (j:=1) rfl
   have y4:=HB2.out.cell (j:=4) rfl
   have f4:=HB2.out.free 4
   clear hbr halr;go_wp2_with fail;go_roundw
   case rel=>
    refine⟨_,i+1,rfl,by omega,by go_num,?_,HC2.out.setCell (.inr HPB.out) _⟩
    rw[HNX.out,←max_if u qt]
    exact HB2.out.set 4 _
   case measure=>exact meas_two hil
  ·have hii:¬(i:Int)<(rs.length:Int):=by omega
   obtain rfl:i=rs.length:=by omega
   have hbr:=HBR.out
   rw[List.take_length] at hbr;have HM2:=Lib.hid (HM1.out.chg HC.out (fun _ _ h=>h))
   have HCW:=Lib.hid (HAL.out.trans HC.out (fun _ h=>h.elim))
   obtain⟨tm,htm⟩:∃ tm,timeOf rs=tm:=⟨_,rfl⟩
   rw[htm] at hbr;have HTM:=Lib.hid htm
   have x0:=hbr.cell (j:=0) rfl
   have x1:=hbr.cell (j:=1) rfl
   have x2:=hbr.cell (j:=2) rfl
   have x3:=hbr.cell (j:=3) rfl
   have x4:=hbr.cell (j:=4) rfl
   have hcj:=HM2.out.c.cell (j:=3) rfl
   have HNE:=Lib.hid HM2.out.ne
   have HNG:Hid (¬v.ownBlock=some b):=fun e=>by have:=HM1.out.lt b (.inr e);have:=HPB.out;omega
   have HBB:=Lib.hid hbr
   clear hbr htm;go_upto_region 7 with fail;refine Ch.wp_region_last2 _ _ rfl (Chg (fun i=>v.ownBlock=some i)) [6,7] (PapF wr.heap.size v g.pls ⟨g.size,size,base,en,tm⟩) (by kernel_rfl) (fun _=>Chg.refl _ _) (fun _ _ _ h k=>h.trans k (fun _ h=>.inl h)) [[],[],[1],[2],[3],[],[5],[4,6],[0],[8]] rfl (by kernel_rfl) (by kernel_rfl) (by kernel_rfl) (Chg.refl _ _).drew ?_ ?_
   ·exact HM2.out.o.chg (Chg.refl Nil _).drew (fun _ _ h=>h)
   simp only[List.dropLast_cons_cons,List.dropLast_singleton]
   iterate 4 ((with_reducible apply Ch.Walk.eq);(case hd=>rfl);(case hi=>rfl);case h=>(intro w2 hw2 N hN;simp only[Ch.depB];go_simp;(try go_bits);with_reducible exact hN _ (Chg.refl _ _) (fun _ h=>h)))
   ((with_reducible apply Ch.Walk.eq);(case hd=>rfl);(case hi=>rfl);case h=>(intro w2 hw2 N hN;(have hq:=hw2.cell hcj (fun e=>HNE.out e));simp only[Ch.depB];go_simp;(try go_bits);with_reducible exact hN _ (Chg.refl _ _) (fun _ h=>h)))
   ((with_reducible apply Ch.Walk.eq);(case hd=>rfl);(case hi=>rfl);case h=>(intro w2 hw2 N hN;(have hx0:=hw2.cell x0 (fun e=>HNG.out e);have hx1:=hw2.cell x1 (fun e=>HNG.out e);have hx2:=hw2.cell x2 (fun e=>HNG.out e);have hx3:=hw2.cell x3 (fun e=>HNG.out e);have hx4:=hw2.cell x4 (fun e=>HNG.out e));simp only[Ch.depB];go_simp;(try go_bits);with_reducible exact hN _ (Chg.refl _ _) (fun _ h=>h)))
   refine Ch.Walk.chain 0 rfl rfl ?_ ?_
   ·intro w8 hw8 vs hvs hF N hN;obtain rfl:=List.eq_nil_of_length_eq_zero hvs
    simp only[Ch.depB,Ch.depC,Nat.reduceBEq,Nat.reduceAdd]
    go_simp;have hal:=(Chg.refl Nil w8).alloc (.cells #[.int .i64 (g.size:Nat),.int .i64 (size:Nat),.int .i64 base,.int .i64 en,.int .i64 tm] 226)
    exact hN _ _ (hal.weak (fun _ h=>h.elim)) ⟨OwnP.chg hF hal (fun _ _ h=>h),w8.heap.size,rfl,Box.new w8 [.int .i64 (g.size:Nat),.int .i64 (size:Nat),.int .i64 base,.int .i64 en,.int .i64 tm] _⟩
   refine Ch.Walk.chain 1 rfl rfl ?_ ?_
   ·intro w8 hw8 vs hvs hF N hN;obtain⟨v1,rfl⟩:=List.length_eq_one_iff.1 hvs
    simp only[Ch.depB,Ch.depC,Nat.reduceBEq,Nat.reduceAdd]
    obtain⟨f1,q8,rfl,f3⟩:=hF
    have hz3:=hw8.size
    refine Ch.if_append_row rfl (.tmp 37) (.tmp 39) 221 221 rfl plT _ Tryz.underlying221 (by intro _;simp) v g.pls.length (g.pls.flatMap Pl.cells) rfl f1 (.slice (some ⟨q8,0,none⟩) 1 1) 1 (Pl.cells ⟨g.size,size,base,en,tm⟩) rfl (Source.box f3 rfl (Pl.cells_one _)) (by have:=HN.out;unfold maxLen;omega) (by have:=HN.out;omega) (fun v' w' h1 h2=>hN _ _ h2.chg ?_)
    refine⟨?_,fun k hk=>(h2.own k hk).imp id fun h=>?_⟩
    ·unfold OwnP;rw[List.length_append,List.flatMap_append,List.flatMap_cons,List.flatMap_nil,List.append_nil];exact h1
    ·have hz3:wr.heap.size≤w8.heap.size:=hz3
     omega
   iterate 2 ((with_reducible apply Ch.Walk.eq);(case hd=>rfl);(case hi=>rfl);case h=>(intro w2 hw2 N hN;simp only[Ch.depB];go_simp;(try go_bits);with_reducible exact hN _ (Chg.refl _ _) (fun _ h=>h)))
   intro w8 hw8;simp only[List.nil_append,List.cons_append,Ch.Fin,List.map_cons,List.map_nil,List.getD_cons_zero,List.getD_cons_succ]
   intro v5 _ v8 _ hF;have f1:OwnP w8 v8 (g.pls++[⟨g.size,size,base,en,tm⟩]):=hF.1
   have f2:∀ k,v8.ownBlock=some k→v.ownBlock=some k∨wr.heap.size≤k:=hF.2
   clear hF;have hw8:Chg (fun i=>v.ownBlock=some i) wr w8:=hw8
   generalize hrs8:g.pls++[(⟨g.size,size,base,en,tm⟩:Pl)]=l8 at f1;have hv8:=f1.form
   generalize vA v8=a8 at hv8;generalize vC v8=c8 at hv8;subst hv8;simp only[Ch.Then,Oper.wp]
   have hcb:=HM2.out.c.chg hw8 HNE.out
   have hcp:=hcb.cell (j:=3) rfl
   have hcf:=hcb.free 3
   have hcp4:=hcb.cell (j:=4) rfl
   have hcf4:=hcb.free 4
   have HCB:=Lib.hid hcb
   have HF1:=Lib.hid f1
   have HF2:=Lib.hid f2
   have HW8:=Lib.hid hw8
   have HL8:=Lib.hid hrs8.symm
   have hw64:wrap64 ((g.size:Int)+(size:Int))=(g.size:Int)+(size:Int):=by have:=HSZ.out;unfold wrap64;omega
   clear f1 f2 hw8 hrs8 hcb x0 x1 x2 x3 x4 hcj hii hi;go_simp;go_wp2_with fail;go_end0
   have hlen:l8.length=g.pls.length+1:=by rw[HL8.out,List.length_append];rfl
   have hns:∀ k,(Value.slice a8 l8.length c8).ownBlock=some k→¬k=s:=fun k hk e=>by
    subst e;exact (HF2.out k hk).elim (fun h=>HNE.out h) (fun h=>by have:=HM2.out.lt k (.inl rfl);omega)
   have hs9:Chg (fun k=>k=s) w8 ((w8.setCell ⟨s,3,none⟩ (.slice a8 l8.length c8)).setCell ⟨s,4,none⟩ (.int .i64 ((g.size:Int)+(size:Int)))):=
    ((Chg.refl (fun k=>k=s) w8).setCell (p:=⟨s,3,none⟩) (.inl rfl) _).setCell (p:=⟨s,4,none⟩) (.inl rfl) _
   refine⟨rfl,.slice a8 l8.length c8,⟨?_,?_⟩,?_,?_⟩
   ·have h9:=(HCB.out.set 3 (.slice a8 l8.length c8)).set 4 (.int .i64 ((g.size:Int)+(size:Int)))
    have e9:((g.noted base en rs size).size:Int)=(g.size:Int)+(size:Int):=by show ((g.size+size:Nat):Int)=_;omega
    rw[e9];exact h9
   ·have h9:=HF1.out.chg hs9 hns
    have e9:(g.noted base en rs size).pls=l8:=by rw[HL8.out,←HTM.out];rfl
    rw[e9];exact h9
   ·exact ((HCW.out.weak (fun _ h=>h.elim)).trans HW8.out (fun k hk=>.inl (.inr hk))).trans hs9 (fun k hk=>.inl (.inl hk))
   ·rintro k (hk | hk)
    ·exact .inl (.inl hk)
    ·exact (HF2.out k hk).imp .inr (fun h=>by have:=HCW.out.size;omega)
end Go.Proofs.YtobegmcbfgnpnaaGreatDoor
