/-
  A segment in memory: note.
-/
import Derived.Test.YtdjmifaidgbbaaaGreatDoorT05
set_option linter.unusedVariables false
set_option linter.unusedSimpArgs false
set_option maxHeartbeats 0
set_option maxRecDepth 200000
namespace Go.Proofs.YtdjmifaidgbbaaaGreatDoor
open Go.RowKit
def timeOf (l:List Rec):Int:=l.foldl (fun t r=>max t r.time) (-1)
theorem time_snoc (l:List Rec) {i:Nat}(hi:i<l.length):timeOf (l.take (i+1))=max (timeOf (l.take i)) l[i].time:=by
 unfold timeOf;rw[List.take_succ_eq_append_getElem hi,List.foldl_append]
 rfl
def Sg.noted (g:Sg) (base en:Int) (rs:List Rec) (size:Nat):Sg:={ g with pls:=g.pls++[⟨g.size,size,base,en,timeOf rs⟩],size:=g.size+size }
def PapF (n0:Nat) (u:Value) (l:List Pl) (r:Pl):List Value→World→Prop
 | [],w=>OwnP w u l
 | [v],w=>OwnP w u l∧∃ q,v = .slice (some ⟨q,0,none⟩) 1 1∧Box w q r.cells 157
 | [_,v],w=>OwnP w v (l++[r])∧∀ k,v.ownBlock=some k→u.ownBlock=some k∨n0≤k
 | _,_=>False
theorem snote_any {w:World} {s p:Nat} {v:Value} {g:Sg} (h:Sm w s p v g) (hn:g.pls.length≤100000) (base en:Int) (ra:Option Addr) (rs:List Rec) (rc:Nat) (hrs:RecsAt w ra rs) (hrl:rs.length≤1000000)
  (size:Nat) (hsz:g.size+size≤4611686018427387904) :
  Calls Tryz.prog 92 #[.pointer (some ⟨s,0,none⟩),.agg #[.int .i64 base,.int .i64 en,.slice ra rs.length rc],.int .i64 (size:Nat)] w fun e w'=>
   e = .returned (.tuple #[])∧∃ v',Sm w' s p v' (g.noted base en rs size)∧Chg (SHas s v) w w'∧∀ k,SHas s v' k→SHas s v k∨w.heap.size≤k:=by
 have hbx:=Box.new w [.int .i64 base,.int .i64 en,.slice ra rs.length rc] 112
 have hal:=(Chg.refl Nil w).alloc (.cells #[.int .i64 base,.int .i64 en,.slice ra rs.length rc] 112)
 have HM:=Lib.hid h
 have HM1:=Lib.hid (h.chg hal (fun _ _ h=>h))
 have HRS:=Lib.hid hrs
 have HN:=Lib.hid hn
 have HSZ:=Lib.hid hsz
 have c4:=HM1.out.c.cell (j:=4) rfl
 clear h hrs hn;go_enter Tryz.func92,Tryz.ntmps92
 go_upto_region 1 with fail;have hbx:Box (w.alloc (.cells #[.int .i64 base,.int .i64 en,.slice ra rs.length rc] 112)) w.heap.size [.int .i64 base,.int .i64 en,.slice ra rs.length rc] 112:=hbx
 have hs1:(w.alloc (.cells #[.int .i64 base,.int .i64 en,.slice ra rs.length rc] 112)).heap.size=w.heap.size+1:=by rw[World.size_alloc]
 generalize w.alloc (.cells #[.int .i64 base,.int .i64 en,.slice ra rs.length rc] 112)=w1 at *;obtain⟨gx,hgx⟩:∃ gx,w.heap.size=gx:=⟨_,rfl⟩
 rw[hgx] at hbx hs1
 rw[hgx];have HGX:=Lib.hid hgx
 have HAL:=Lib.hid hal
 have HS1:=Lib.hid hs1
 have HBX:=Lib.hid hbx
 have x0:=hbx.cell (j:=0) rfl
 have x1:=hbx.cell (j:=1) rfl
 clear hgx hal hs1 hbx hsz;refine Ch.wp_region_last _ _ rfl (Chg (Nil)) [] (fun _ _=>True) (by kernel_rfl) (fun _=>Chg.refl _ _) (fun _ _ _ h k=>h.trans k (fun _ h=>.inl h)) [[],[0],[1],[2],[],[],[5],[],[7],[3,4,6,8],[]] rfl (by kernel_rfl) (by kernel_rfl) (by kernel_rfl) (Chg.refl _ _).drew ?_ ?_
 ·trivial
 simp only[List.dropLast_cons_cons,List.dropLast_singleton]
 iterate 3 ((with_reducible apply Ch.Walk.eq);(case hd=>rfl);(case hi=>rfl);case h=>(intro w2 hw2 N hN;simp only[Ch.depB];go_simp;(try go_bits);with_reducible exact hN _ (Chg.refl _ _) (fun _ h=>h)))
 ((with_reducible apply Ch.Walk.eq);(case hd=>rfl);(case hi=>rfl);case h=>(intro w2 hw2 N hN;(have hq:=hw2.cell c4 (fun h=>h));simp only[Ch.depB];go_simp;(try go_bits);with_reducible exact hN _ (Chg.refl _ _) (fun _ h=>h)))
 iterate 2 ((with_reducible apply Ch.Walk.eq);(case hd=>rfl);(case hi=>rfl);case h=>(intro w2 hw2 N hN;simp only[Ch.depB];go_simp;(try go_bits);with_reducible exact hN _ (Chg.refl _ _) (fun _ h=>h)))
 ((with_reducible apply Ch.Walk.eq);(case hd=>rfl);(case hi=>rfl);case h=>(intro w2 hw2 N hN;(have hq:=hw2.cell x0 (fun h=>h));simp only[Ch.depB];go_simp;(try go_bits);with_reducible exact hN _ (Chg.refl _ _) (fun _ h=>h)))
 ((with_reducible apply Ch.Walk.eq);(case hd=>rfl);(case hi=>rfl);case h=>(intro w2 hw2 N hN;simp only[Ch.depB];go_simp;(try go_bits);with_reducible exact hN _ (Chg.refl _ _) (fun _ h=>h)))
 ((with_reducible apply Ch.Walk.eq);(case hd=>rfl);(case hi=>rfl);case h=>(intro w2 hw2 N hN;(have hq:=hw2.cell x1 (fun h=>h));simp only[Ch.depB];go_simp;(try go_bits);with_reducible exact hN _ (Chg.refl _ _) (fun _ h=>h)))
 ((with_reducible apply Ch.Walk.eq);(case hd=>rfl);(case hi=>rfl);case h=>(intro w2 hw2 N hN;simp only[Ch.depB];go_simp;(try go_bits);with_reducible exact hN _ (Chg.refl _ _) (fun _ h=>h)))
 refine Ch.Walk.sat (fun v w=>∃ b,v = .pointer (some ⟨b,0,none⟩)∧w1.heap.size≤b∧Box w b [.int .i64 0,.int .i64 0,.int .i64 0,.int .i64 0,.int .i64 0] 157) ?_ rfl rfl ?_ ?_
 ·rintro v w6 w7 ⟨b,rfl,hp,hbx⟩ hc
  exact⟨b,rfl,hp,hbx.chg hc (fun h=>h)⟩
 ·intro w6 hw6 N hN;simp only[Ch.depB,Ch.depC,Nat.reduceBEq,Nat.reduceAdd]
  go_simp;exact hN _ _ ⟨w6.heap.size,rfl,hw6.size,Box.new w6 [.int .i64 0,.int .i64 0,.int .i64 0,.int .i64 0,.int .i64 0] 157⟩ ((Chg.refl _ _).alloc _) (fun vs hF=>trivial)
 intro w6 hw6;simp only[List.nil_append,List.cons_append,Ch.Fin,List.map_cons,List.map_nil,List.getD_cons_zero,List.getD_cons_succ]
 rintro v9 ⟨b,rfl,hp,hbp⟩ _
 simp only[Ch.Then,Oper.wp]
 have b0:=hbp.cell (j:=0) rfl
 have f0:=hbp.free 0
 have b1:=hbp.cell (j:=1) rfl
 have f1:=hbp.free 1
 have b2:=hbp.cell (j:=2) rfl
 have f2:=hbp.free 2
 have b3:=hbp.cell (j:=3) rfl
 have f3:=hbp.free 3
 have b4:=hbp.cell (j:=4) rfl
 have f4:=hbp.free 4
 go_simp;have hb9:Box (((((w6.setCell ⟨b,0,none⟩ (.int .i64 (g.size:Nat))).setCell ⟨b,1,none⟩ (.int .i64 (size:Nat))).setCell ⟨b,2,none⟩ (.int .i64 base)).setCell ⟨b,3,none⟩ (.int .i64 en)).setCell ⟨b,4,none⟩ (.int .i64 (-1))) b [.int .i64 (g.size:Nat),.int .i64 (size:Nat),.int .i64 base,.int .i64 en,.int .i64 (-1)] 157:=((((hbp.set 0 _).set 1 _).set 2 _).set 3 _).set 4 _
 have hcs:Chg Nil w1 (((((w6.setCell ⟨b,0,none⟩ (.int .i64 (g.size:Nat))).setCell ⟨b,1,none⟩ (.int .i64 (size:Nat))).setCell ⟨b,2,none⟩ (.int .i64 base)).setCell ⟨b,3,none⟩ (.int .i64 en)).setCell ⟨b,4,none⟩ (.int .i64 (-1))):=
  ((((hw6.setCell (.inr hp) _).setCell (.inr hp) _).setCell (.inr hp) _).setCell (.inr hp) _).setCell (.inr hp) _
 clear b0 b1 b2 b3 b4 f0 f1 f2 f3 f4 hbp hw6;generalize (((((w6.setCell ⟨b,0,none⟩ (.int .i64 (g.size:Nat))).setCell ⟨b,1,none⟩ (.int .i64 (size:Nat))).setCell ⟨b,2,none⟩ (.int .i64 base)).setCell ⟨b,3,none⟩ (.int .i64 en)).setCell ⟨b,4,none⟩ (.int .i64 (-1)))=w2 at *
 have HB:=Lib.hid hb9
 have HCS:=Lib.hid hcs
 have HPB:=Lib.hid hp
 have x2:=hcs.cell (HBX.out.cell (j:=2) rfl) (fun h=>h)
 clear hb9 hcs hp c4 x0 x1;go_wp2_with fail;go_loopw [22] (fun ii wr=>∃ (wq:World) (i:Nat),wq=wr∧i≤rs.length∧ii = .int .i64 i∧Box wr b [.int .i64 (g.size:Nat),.int .i64 (size:Nat),.int .i64 base,.int .i64 en,.int .i64 (timeOf (rs.take i))] 157∧Chg Nil w1 wr) (fun ii _=>rs.length-(RowKit.intOf ii).toNat)
 case atStart=>exact⟨_,0,rfl,by omega,rfl,HB.out,HCS.out⟩
 case round=>
  obtain⟨wr,i,rfl,hi,rfl,hb,hc⟩:=hrel
  have HBR:=Lib.hid hb
  have HC:=Lib.hid hc
  clear hb hc;by_cases hil:i<rs.length
  ·have hii:(i:Int)<(rs.length:Int):=by omega
   have hi64:wrap64 ((i:Int)+1)=(i:Int)+1:=by unfold wrap64;omega
   obtain⟨rb,off,rfl,hcell⟩:=HRS.out i hil
   have HNX:=Lib.hid (time_snoc rs hil)
   obtain⟨u,hu⟩:∃ u,timeOf (rs.take i)=u:=⟨_,rfl⟩
   rw[hu] at HNX HBR
   obtain⟨q,hq⟩:∃ q,q=rs[i]:=⟨_,rfl⟩
   rw[←hq] at hcell HNX
   clear hu hq;obtain⟨qo,qt,qk,qkey,qg,qv⟩:=q
   have z0:=HC.out.cell (HAL.out.cell (hcell 0 _ rfl) (fun h=>h)) (fun h=>h)
   have z1:=HC.out.cell (HAL.out.cell (hcell 1 _ rfl) (fun h=>h)) (fun h=>h)
   have z2:=HC.out.cell (HAL.out.cell (hcell 2 _ rfl) (fun h=>h)) (fun h=>h)
   have z3:=HC.out.cell (HAL.out.cell (hcell 3 _ rfl) (fun h=>h)) (fun h=>h)
   have z4:=HC.out.cell (HAL.out.cell (hcell 4 _ rfl) (fun h=>h)) (fun h=>h)
   have z5:=HC.out.cell (HAL.out.cell (hcell 5 _ rfl) (fun h=>h)) (fun h=>h)
   rw[Nat.add_zero] at z0;clear hcell;have hbr:=Box.new wr [.int .i64 qo,.int .i64 qt,.bool qk,.string qkey,.bool qg,.string qv] 37
   have halr:=(Chg.refl Nil wr).alloc (.cells #[.int .i64 qo,.int .i64 qt,.bool qk,.string qkey,.bool qg,.string qv] 37)
   go_upto_region 5 with fail;clear z0 z1 z2 z3 z4 z5;have hbr:Box (wr.alloc (.cells #[.int .i64 qo,.int .i64 qt,.bool qk,.string qkey,.bool qg,.string qv] 37)) wr.heap.size [.int .i64 qo,.int .i64 qt,.bool qk,.string qkey,.bool qg,.string qv] 37:=hbr
   have HC2:=Lib.hid (HC.out.trans halr (fun _ h=>h.elim))
   have HB2:=Lib.hid (HBR.out.chg halr (fun h=>h))
   generalize wr.alloc (.cells #[.int .i64 qo,.int .i64 qt,.bool qk,.string qkey,.bool qg,.string qv] 37)=w4 at *;generalize wr.heap.size=g4 at *
   have y1:=hbr.cell (j:=1) rfl
   have y4:=HB2.out.cell (j:=4) rfl
   have f4:=HB2.out.free 4
   clear hbr halr;go_wp2_with fail;go_roundw
   case rel=>
    refine⟨_,i+1,rfl,by omega,by go_num,?_,HC2.out.setCell (.inr HPB.out) _⟩
    rw[HNX.out,←max_if u qt]
    exact HB2.out.set 4 _
   case measure=>exact meas_two hil
  ·have hii:¬(i:Int)<(rs.length:Int):=by omega
   obtain rfl:i=rs.length:=by omega
   have hbr:=HBR.out
   rw[List.take_length] at hbr;have HM2:=Lib.hid (HM1.out.chg HC.out (fun _ _ h=>h))
   have HCW:=Lib.hid (HAL.out.trans HC.out (fun _ h=>h.elim))
   obtain⟨tm,htm⟩:∃ tm,timeOf rs=tm:=⟨_,rfl⟩
   rw[htm] at hbr;have HTM:=Lib.hid htm
   have x0:=hbr.cell (j:=0) rfl
   have x1:=hbr.cell (j:=1) rfl
   have x2:=hbr.cell (j:=2) rfl
   have x3:=hbr.cell (j:=3) rfl
   have x4:=hbr.cell (j:=4) rfl
   have hcj:=HM2.out.c.cell (j:=3) rfl
   have HNE:=Lib.hid HM2.out.ne
   have HNG:Hid (¬v.ownBlock=some b):=fun e=>by have:=HM1.out.lt b (.inr e);have:=HPB.out;omega
   have HBB:=Lib.hid hbr
   clear hbr htm;go_upto_region 7 with fail;refine Ch.wp_region_last2 _ _ rfl (Chg (fun i=>v.ownBlock=some i)) [6,7] (PapF wr.heap.size v g.pls ⟨g.size,size,base,en,tm⟩) (by kernel_rfl) (fun _=>Chg.refl _ _) (fun _ _ _ h k=>h.trans k (fun _ h=>.inl h)) [[],[],[1],[2],[3],[],[5],[4,6],[0],[8]] rfl (by kernel_rfl) (by kernel_rfl) (by kernel_rfl) (Chg.refl _ _).drew ?_ ?_
   ·exact HM2.out.o.chg (Chg.refl Nil _).drew (fun _ _ h=>h)
   simp only[List.dropLast_cons_cons,List.dropLast_singleton]
   iterate 4 ((with_reducible apply Ch.Walk.eq);(case hd=>rfl);(case hi=>rfl);case h=>(intro w2 hw2 N hN;simp only[Ch.depB];go_simp;(try go_bits);with_reducible exact hN _ (Chg.refl _ _) (fun _ h=>h)))
   ((with_reducible apply Ch.Walk.eq);(case hd=>rfl);(case hi=>rfl);case h=>(intro w2 hw2 N hN;(have hq:=hw2.cell hcj (fun e=>HNE.out e));simp only[Ch.depB];go_simp;(try go_bits);with_reducible exact hN _ (Chg.refl _ _) (fun _ h=>h)))
   ((with_reducible apply Ch.Walk.eq);(case hd=>rfl);(case hi=>rfl);case h=>(intro w2 hw2 N hN;(have hx0:=hw2.cell x0 (fun e=>HNG.out e);have hx1:=hw2.cell x1 (fun e=>HNG.out e);have hx2:=hw2.cell x2 (fun e=>HNG.out e);have hx3:=hw2.cell x3 (fun e=>HNG.out e);have hx4:=hw2.cell x4 (fun e=>HNG.out e));simp only[Ch.depB];go_simp;(try go_bits);with_reducible exact hN _ (Chg.refl _ _) (fun _ h=>h)))
   refine Ch.Walk.chain 0 rfl rfl ?_ ?_
   ·intro w8 hw8 vs hvs hF N hN;obtain rfl:=List.eq_nil_of_length_eq_zero hvs
    simp only[Ch.depB,Ch.depC,Nat.reduceBEq,Nat.reduceAdd]
    go_simp;have hal:=(Chg.refl Nil w8).alloc (.cells #[.int .i64 (g.size:Nat),.int .i64 (size:Nat),.int .i64 base,.int .i64 en,.int .i64 tm] 157)
    exact hN _ _ (hal.weak (fun _ h=>h.elim)) ⟨OwnP.chg hF hal (fun _ _ h=>h),w8.heap.size,rfl,Box.new w8 [.int .i64 (g.size:Nat),.int .i64 (size:Nat),.int .i64 base,.int .i64 en,.int .i64 tm] _⟩
   refine Ch.Walk.chain 1 rfl rfl ?_ ?_
   ·intro w8 hw8 vs hvs hF N hN;obtain⟨v1,rfl⟩:=List.length_eq_one_iff.1 hvs
    simp only[Ch.depB,Ch.depC,Nat.reduceBEq,Nat.reduceAdd]
    obtain⟨f1,q8,rfl,f3⟩:=hF
    have hz3:=hw8.size
    refine Ch.if_append_row rfl (.tmp 37) (.tmp 39) 153 153 rfl plT _ Tryz.underlying153 (by intro _;simp) v g.pls.length (g.pls.flatMap Pl.cells) rfl f1 (.slice (some ⟨q8,0,none⟩) 1 1) 1 (Pl.cells ⟨g.size,size,base,en,tm⟩) rfl (Source.box f3 rfl (Pl.cells_one _)) (by have:=HN.out;unfold maxLen;omega) (by have:=HN.out;omega) (fun v' w' h1 h2=>hN _ _ h2.chg ?_)
    refine⟨?_,fun k hk=>(h2.own k hk).imp id fun h=>?_⟩
    ·unfold OwnP;rw[List.length_append,List.flatMap_append,List.flatMap_cons,List.flatMap_nil,List.append_nil];exact h1
    ·have hz3:wr.heap.size≤w8.heap.size:=hz3
     omega
   iterate 2 ((with_reducible apply Ch.Walk.eq);(case hd=>rfl);(case hi=>rfl);case h=>(intro w2 hw2 N hN;simp only[Ch.depB];go_simp;(try go_bits);with_reducible exact hN _ (Chg.refl _ _) (fun _ h=>h)))
   intro w8 hw8;simp only[List.nil_append,List.cons_append,Ch.Fin,List.map_cons,List.map_nil,List.getD_cons_zero,List.getD_cons_succ]
   intro v5 _ v8 _ hF;have f1:OwnP w8 v8 (g.pls++[⟨g.size,size,base,en,tm⟩]):=hF.1
   have f2:∀ k,v8.ownBlock=some k→v.ownBlock=some k∨wr.heap.size≤k:=hF.2
   clear hF;have hw8:Chg (fun i=>v.ownBlock=some i) wr w8:=hw8
   generalize hrs8:g.pls++[(⟨g.size,size,base,en,tm⟩:Pl)]=l8 at f1;have hv8:=f1.form
   generalize vA v8=a8 at hv8;generalize vC v8=c8 at hv8;subst hv8;simp only[Ch.Then,Oper.wp]
   have hcb:=HM2.out.c.chg hw8 HNE.out
   have hcp:=hcb.cell (j:=3) rfl
   have hcf:=hcb.free 3
   have hcp4:=hcb.cell (j:=4) rfl
   have hcf4:=hcb.free 4
   have HCB:=Lib.hid hcb
   have HF1:=Lib.hid f1
   have HF2:=Lib.hid f2
   have HW8:=Lib.hid hw8
   have HL8:=Lib.hid hrs8.symm
   have hw64:wrap64 ((g.size:Int)+(size:Int))=(g.size:Int)+(size:Int):=by have:=HSZ.out;unfold wrap64;omega
   clear f1 f2 hw8 hrs8 hcb x0 x1 x2 x3 x4 hcj hii hi;go_simp;go_wp2_with fail;go_end0
   have hlen:l8.length=g.pls.length+1:=by rw[HL8.out,List.length_append];rfl
   have hns:∀ k,(Value.slice a8 l8.length c8).ownBlock=some k→¬k=s:=fun k hk e=>by
    subst e;exact (HF2.out k hk).elim (fun h=>HNE.out h) (fun h=>by have:=HM2.out.lt k (.inl rfl);omega)
   have hs9:Chg (fun k=>k=s) w8 ((w8.setCell ⟨s,3,none⟩ (.slice a8 l8.length c8)).setCell ⟨s,4,none⟩ (.int .i64 ((g.size:Int)+(size:Int)))):=
    ((Chg.refl (fun k=>k=s) w8).setCell (p:=⟨s,3,none⟩) (.inl rfl) _).setCell (p:=⟨s,4,none⟩) (.inl rfl) _
   refine⟨rfl,.slice a8 l8.length c8,⟨?_,?_⟩,?_,?_⟩
   ·have h9:=(HCB.out.set 3 (.slice a8 l8.length c8)).set 4 (.int .i64 ((g.size:Int)+(size:Int)))
    have e9:((g.noted base en rs size).size:Int)=(g.size:Int)+(size:Int):=by show ((g.size+size:Nat):Int)=_;omega
    rw[e9];exact h9
   ·have h9:=HF1.out.chg hs9 hns
    have e9:(g.noted base en rs size).pls=l8:=by rw[HL8.out,←HTM.out];rfl
    rw[e9];exact h9
   ·exact ((HCW.out.weak (fun _ h=>h.elim)).trans HW8.out (fun k hk=>.inl (.inr hk))).trans hs9 (fun k hk=>.inl (.inl hk))
   ·rintro k (hk | hk)
    ·exact .inl (.inl hk)
    ·exact (HF2.out k hk).imp .inr (fun h=>by have:=HCW.out.size;omega)
def SlcRow (w:World) (e:TypeId) (size:Nat) (v:Value) (n:Nat) (xs:List Value):Prop:=
 xs.length=n*size∧((v = .slice none 0 0∧n=0)∨(∃ a,v = .slice (some a) 0 0∧n=0)∨
  ∃ g cap cur,v = .slice (some ⟨g,0,none⟩) n cap∧w.heap[g]? = some (.cells cur e (0,0))∧n≤cap∧cap≤maxLen∧cap*size≤cur.size∧cur.toList.take (n*size)=xs)
def Value.room:Value→Option Nat
 | .slice (some a) _ (c+1)=>some a.block
 | _=>none
def Room (v:Value):Nat→Prop:=fun k=>Value.room v=some k
theorem SlcRow.nil (w:World) (e:TypeId) (size:Nat):SlcRow w e size (.slice none 0 0) 0 []:=⟨by simp,.inl ⟨rfl,rfl⟩⟩
theorem SlcRow.zero (w:World) (e:TypeId) (size:Nat) (a:Addr):SlcRow w e size (.slice (some a) 0 0) 0 []:=⟨by simp,.inr (.inl ⟨a,rfl,rfl⟩)⟩
theorem SlcRow.chg {S:Nat→Prop}{w w':World}{e:TypeId}{size:Nat}{v:Value}{n:Nat}{xs:List Value}(h:SlcRow w e size v n xs)(hc:Chg S w w')(hn:∀ k,Value.room v=some k→¬S k):SlcRow w' e size v n xs:=by
 refine⟨h.1,?_⟩
 rcases h.2 with h | h | ⟨g,cap,cur,h1,h2,h3,h4,h5,h6⟩
 ·exact .inl h
 ·exact .inr (.inl h)
 ·cases cap with
  | zero=>
   obtain rfl:n=0:=by omega
   exact .inr (.inl ⟨_,h1,rfl⟩)
  | succ c=>exact .inr (.inr ⟨g,c+1,cur,h1,(hc.block g (by have:=(Array.getElem?_eq_some_iff.1 h2).1;exact this) (hn g (by rw[h1];rfl))).trans h2,h3,h4,h5,h6⟩)
theorem SlcRow.lt {w:World}{e:TypeId}{size:Nat}{v:Value}{n:Nat}{xs:List Value}(h:SlcRow w e size v n xs):∀ k,Value.room v=some k→k<w.heap.size:=by
 intro k hk;rcases h.2 with ⟨rfl,_⟩ | ⟨a,rfl,_⟩ | ⟨g,cap,cur,rfl,h2,_⟩
 ·cases hk
 ·cases hk
 ·cases cap with
  | zero=>cases hk
  | succ c=>obtain rfl:g=k:=Option.some.inj hk;exact (Array.getElem?_eq_some_iff.1 h2).1
theorem SlcRow.row {w:World}{e:TypeId}{size:Nat}{v:Value}{n:Nat}{xs:List Value}(h:SlcRow w e size v n xs):∀ k,Value.room v=some k→∃ cur,w.heap[k]? = some (.cells cur e (0,0)):=by
 intro k hk;rcases h.2 with ⟨rfl,_⟩ | ⟨a,rfl,_⟩ | ⟨g,cap,cur,rfl,h2,_⟩
 ·cases hk
 ·cases hk
 ·cases cap with
  | zero=>cases hk
  | succ c=>obtain rfl:g=k:=Option.some.inj hk;exact⟨cur,h2⟩
theorem SlcRow.form {w:World}{e:TypeId}{size:Nat}{v:Value}{n:Nat}{xs:List Value}(h:SlcRow w e size v n xs):∃ a c,v = .slice a n c∧n≤c∧n≤maxLen:=by
 rcases h.2 with ⟨rfl,rfl⟩ | ⟨a,rfl,rfl⟩ | ⟨g,cap,cur,rfl,h2,h3,h4,_⟩
 ·exact⟨_,_,rfl,Nat.le_refl _,Nat.zero_le _⟩
 ·exact⟨_,_,rfl,Nat.le_refl _,Nat.zero_le _⟩
 ·exact⟨_,_,rfl,h3,Nat.le_trans h3 h4⟩
structure Grewn (w w':World) (v v':Value):Prop where
 chg:Chg (Room v) w w'
 own:∀ k,Value.room v'=some k→Value.room v=some k∨w.heap.size≤k
theorem run_append_slc {P:Program} (w:World) (t u ty e:TypeId) (d:TypeDesc) (i:TypeInfo) (z:Value)(ht:P.underlying t=some (.slice e))(hu:P.underlying u=some d)(hd:∀ k,d≠.int k)
  (hi:P.info? e=some i)(hz:i.zero=some z)(hzs:z.cells.size=i.size) (v:Value) (n:Nat) (xs:List Value)(hown:SlcRow w e i.size v n xs)
  (x:Value) (m:Nat) (news:List Value)(hx:Source P w i.size x m news)(h63:n+m≤maxLen)(hbytes:(n+m)*i.bytes≤140737488355328) :
  ∃ v' w',(Builtin.append_ #[t,u] ty #[v,x]).run P w = .ok v' w'∧SlcRow w' e i.size v' (n+m) (xs++news)∧Grewn w w' v v':=by
 have hlen:(xs++news).length=(n+m)*i.size:=by rw[List.length_append,hown.1,hx.length,Nat.add_mul]
 have hlx:=hx.len
 have hfx:=hx.first w (fun _=>rfl)
 have hfd:=hx.first w.drew (fun _=>rfl)
 have hsmall:n+m≤9223372036854775807:=by simp only[maxLen] at h63;omega
 have grown:∀ (old:Nat),old<n+m→
   SlcRow (w.drew.alloc (.cells (xs.toArray++news.toArray++Builtin.zeroCells z.cells (grownCap w (n+m) old e-(n+m))) e)) e i.size
    (.slice (some ⟨w.heap.size,0,none⟩) (n+m) (grownCap w (n+m) old e)) (n+m) (xs++news)∧
   Grewn w (w.drew.alloc (.cells (xs.toArray++news.toArray++Builtin.zeroCells z.cells (grownCap w (n+m) old e-(n+m))) e)) v (.slice (some ⟨w.heap.size,0,none⟩) (n+m) (grownCap w (n+m) old e)):=by
  intro old ho;have hge:=grownCap_ge w (n+m) old e
  have hcm:grownCap w (n+m) old e≤maxLen:=grownCap_le_maxLen w (n+m) old e h63
  refine⟨⟨hlen,.inr (.inr ⟨w.heap.size,_,_,rfl,heap_alloc_new w.drew _,hge,hcm,?_,?_⟩)⟩,⟨(Chg.refl _ _).drew.alloc _,fun k hk=>.inr ?_⟩⟩
  ·simp only[Array.size_append,List.size_toArray,size_zeroCells,hzs,hown.1,hx.length,←Nat.add_mul]
   refine Nat.le_of_eq ?_
   congr 1
   omega
  ·simp only[Array.toList_append,List.append_assoc]
   rw[←List.append_assoc,←hlen];exact List.take_left
  ·cases hc:grownCap w (n+m) old e with
   | zero=>rw[hc] at hk;cases hk
   | succ c=>
    rw[hc] at hk;have:w.heap.size=k:=Option.some.inj hk
    omega
 rcases hown.2 with ⟨rfl,rfl⟩ | ⟨a,rfl,rfl⟩ | ⟨g,cap,cur,rfl,hg,hnc,hcm,hcs,htake⟩
 ·have hxs:xs=[]:=List.eq_nil_of_length_eq_zero (by simpa using hown.1)
  subst hxs;by_cases hm:m=0
  ·subst hm;have hn:news=[]:=List.eq_nil_of_length_eq_zero (by simpa using hx.length)
   subst hn;refine⟨.slice none 0 0,w,?_,SlcRow.nil w e i.size,⟨Chg.refl _ _,fun k hk=>.inl hk⟩⟩
   simp[Builtin.append_,run_underlying ht,run_underlying hu,sizeOf,typeInfo,hi,hlx,hfx]
  ·have h63':¬(9223372036854775807<(m:Int)):=by omega
   have h48':¬(281474976710656<Builtin.nextslicecap m 0*i.bytes):=by
    rw[nextslicecap_zero (by omega)];simp only[Nat.zero_add] at hbytes;omega
   have hgr:=grown 0 (by omega)
   simp only[Nat.zero_add,List.nil_append,Array.empty_append] at hgr ⊢
   refine⟨_,_,?_,hgr.1,hgr.2⟩
   simp[Builtin.append_,run_underlying ht,run_underlying hu,sizeOf,typeInfo,zeroValue,hi,hz,hlx,hfd,hm,h63',h48',Question.forced,run_firstCells_none,newRow,grownCap]
 ·have hxs:xs=[]:=List.eq_nil_of_length_eq_zero (by simpa using hown.1)
  subst hxs;have hfo:=run_firstCells_some (P:=P) w.drew i.size 0 a 0 0 [] (by simp) (by simp)
  by_cases hm:m=0
  ·subst hm;have hn:news=[]:=List.eq_nil_of_length_eq_zero (by simpa using hx.length)
   subst hn;refine⟨.slice (some a) 0 0,w,?_,SlcRow.zero w e i.size a,⟨Chg.refl _ _,fun k hk=>.inl hk⟩⟩
   simp[Builtin.append_,run_underlying ht,run_underlying hu,sizeOf,typeInfo,hi,hlx,hfx,storeCells,Result.andThen]
  ·have h63':¬(9223372036854775807<(m:Int)):=by omega
   have h48':¬(281474976710656<Builtin.nextslicecap m 0*i.bytes):=by
    rw[nextslicecap_zero (by omega)];simp only[Nat.zero_add] at hbytes;omega
   have hgr:=grown 0 (by omega)
   simp only[Nat.zero_add,List.nil_append,Array.empty_append] at hgr ⊢
   refine⟨_,_,?_,hgr.1,hgr.2⟩
   simp[Builtin.append_,run_underlying ht,run_underlying hu,sizeOf,typeInfo,zeroValue,hi,hz,hlx,hfd,hfo,hm,h63',h48',Question.forced,newRow,grownCap]
 ·by_cases hroom:n+m≤cap
  ·have hfit:n*i.size+news.length≤cur.size:=by rw[hx.length,←Nat.add_mul];exact Nat.le_trans (Nat.mul_le_mul_right _ hroom) hcs
   have hst:=run_storeCells_at P g (n*i.size) e news 0 cur w hg (by simpa using hfit) hx.one
   simp only[Nat.add_zero] at hst
   refine⟨.slice (some ⟨g,0,none⟩) (n+m) cap,w.setRow g (cur.toList.take (n*i.size)++news++cur.toList.drop (n*i.size+news.length)).toArray,?_,
    ⟨hlen,.inr (.inr ⟨g,cap,_,rfl,setRow_heap w g cur _ e _ hg,hroom,hcm,?_,?_⟩)⟩,?_⟩
   ·simp[Builtin.append_,run_underlying ht,run_underlying hu,sizeOf,typeInfo,hi,hlx,hroom,hfx,Addr.add_lit,hst]
   ·simp only[List.size_toArray,List.length_append,List.length_take,List.length_drop,Array.length_toList]
    omega
   ·rw[htake,←hlen];exact List.take_left
   ·cases cap with
    | zero=>
     have hm:m=0:=by omega
     obtain rfl:n=0:=by omega
     have hn:news=[]:=List.eq_nil_of_length_eq_zero (by rw[hx.length,hm,Nat.zero_mul])
     subst hn;have e1:w.setRow g (cur.toList.take (0*i.size)++[]++cur.toList.drop (0*i.size+([]:List Value).length)).toArray=w:=by
      simp only[List.append_nil,List.length_nil,Nat.add_zero,List.take_append_drop,Array.toArray_toList]
      exact setRow_self w g cur e (0,0) hg
     rw[e1];exact⟨Chg.refl _ _,fun k hk=>.inl hk⟩
    | succ c=>exact⟨⟨rfl,rfl,rfl,by simp[World.setRow],fun k _ hk=>setRow_other w g k _ (fun e=>hk (by simp[Room,Value.room,e]))⟩,fun k hk=>.inl hk⟩
  ·have holds:∀ j y,xs[j]? = some y→w.cell? ((⟨g,0,none⟩:Addr).add j)=some y:=by
    intro j y hj;have e1:(⟨g,0,none⟩:Addr).add j=⟨g,j,none⟩:=by unfold Addr.add;split<;>simp_all
    rw[e1,cell_of_row w g j cur e (0,0) hg]
    rw[←htake,List.getElem?_take] at hj
    split at hj
    ·simpa using hj
    ·cases hj
   have hfo:=run_firstCells_some (P:=P) w.drew i.size n ⟨g,0,none⟩ n cap xs hown.1 (by simpa using holds)
   have h63':¬(9223372036854775807<((n:Int)+(m:Int))):=by omega
   have h48':¬(281474976710656<Builtin.nextslicecap (n+m) cap*i.bytes):=by
    have:=growslice_fits (need:=n+m) (old:=cap) (by omega) hbytes
    omega
   have hgr:=grown cap (by omega)
   refine⟨_,_,?_,hgr.1,hgr.2⟩
   simp[Builtin.append_,run_underlying ht,run_underlying hu,sizeOf,typeInfo,zeroValue,hi,hz,hlx,hfd,hfo,hroom,h63',h48',Question.forced,newRow,grownCap]
   congr 2
   apply Array.ext'
   simp[List.append_assoc]
abbrev Nm:=List UInt8
structure Fl where
 bytes:List UInt8
 safe:Nat
structure Dk where
 fs:List (Nm×Fl)
 room:Nat
 left:Int
def Dk.names (d:Dk):List Nm:=d.fs.map (·.1)
def Dk.find (d:Dk) (x:Nm):Option Fl:=d.fs.lookup x
def Dk.used (d:Dk):Nat:=(d.fs.map fun p=>p.2.bytes.length).sum
def Dk.size (d:Dk) (x:Nm):Int:=match d.find x with | some f=>f.bytes.length | none=>-1
def readOf (l:List UInt8) (frm most:Int):List UInt8:=if frm<0∨most≤0 then [] else (l.drop frm.toNat).take most.toNat
def Dk.read (d:Dk) (x:Nm) (frm most:Int):List UInt8:=match d.find x with | some f=>readOf f.bytes frm most | none=>[]
def didB (l:Int):Bool:=decide (l≠0)
def stepL (l:Int):Int:=if 0<l then l-1 else l
def Dk.does (d:Dk):Bool:=didB d.left
def Dk.step (d:Dk):Dk:={ d with left:=stepL d.left }
def Dk.turn (d:Dk) (x:Nm) (f:Fl):Dk:={ d with fs:=d.fs.map fun p=>if p.1=x then (p.1,f) else p }
def Dk.del (d:Dk) (x:Nm):Dk:={ d with fs:=d.fs.filter fun p=>decide (p.1≠x) }
def Dk.put (d:Dk) (x:Nm) (f:Fl):Dk:={ d with fs:=(d.fs.filter fun p=>decide (p.1≠x))++[(x,f)] }
def Dk.fresh (room:Nat):Dk:={ fs:=[],room:=room,left:=-1 }
def dkName (x:Nm):Bool:=nameOk 40 cutDisk x
def Dk.make (d:Dk) (x:Nm):Nat×Dk:=
 if d.does=false then (14,d) else
  if dkName x=false then (5,d.step) else
   if (d.find x).isSome=true then (9,d.step) else
    if d.fs.length=200 then (4,d.step) else (0,d.step.put x ⟨[],0⟩)
def Dk.at (d:Dk) (x:Nm) (g:Fl→Nat×(Dk→Dk)):Nat×Dk:=
 if d.does=false then (14,d) else
  match d.find x with
  | none=>(7,d.step)
  | some f=>((g f).1,(g f).2 d.step)
def Dk.add (d:Dk) (x:Nm) (b:List UInt8):Nat×Dk:=
 d.at x fun f=>if d.room<d.used+b.length then (12,id) else (0,fun d=>d.turn x ⟨f.bytes++b,f.safe⟩)
def Dk.cut (d:Dk) (x:Nm) (n:Int):Nat×Dk:=
 d.at x fun f=>if n<0∨(f.bytes.length:Int)<n then (2,id) else (0,fun d=>d.turn x ⟨f.bytes.take n.toNat,min f.safe n.toNat⟩)
def Dk.sync (d:Dk) (x:Nm):Nat×Dk:=
 d.at x fun f=>(0,fun d=>d.turn x ⟨f.bytes,f.bytes.length⟩)
def Dk.rename (d:Dk) (x y:Nm):Nat×Dk:=
 d.at x fun f=>if dkName y=false then (5,id) else (0,fun d=>(d.del x).put y f)
def Dk.remove (d:Dk) (x:Nm):Nat×Dk:=
 d.at x fun _=>(0,fun d=>d.del x)
def sortN (l:List Nm):List Nm:=l.mergeSort fun x y=>decide (x≤y)
def Dk.list (d:Dk) (begin:Nm):List Nm:=sortN (d.names.filter fun x=>begin.isPrefixOf x)
def keepOf (f:Fl) (fates:List UInt8) (i:Nat):Nat:=
 if fates=[] then f.safe else min f.bytes.length (f.safe+(fates.getD (i % fates.length) 0).toNat)
def crashed (f:Fl) (fates:List UInt8) (i:Nat):Fl:=⟨f.bytes.take (keepOf f fates i),keepOf f fates i⟩
def Dk.crash1 (fates:List UInt8) (d:Dk) (i:Nat) (x:Nm):Dk:=match d.find x with | some f=>d.turn x (crashed f fates i) | none=>d
def Dk.crashGo (fates:List UInt8):Nat→List Nm→Dk→Dk
 | _,[],d=>d
 | i,x::r,d=>Dk.crashGo fates (i+1) r (d.crash1 fates i x)
def Dk.crash (d:Dk) (fates:List UInt8):Dk:={ Dk.crashGo fates 0 (d.list []) d with left:=-1 }
structure Dk.Ok (d:Dk):Prop where
 nodup:d.names.Nodup
 safe:∀ p∈d.fs,p.2.safe≤p.2.bytes.length
 fits:d.used≤d.room
 room:d.room≤1048576
 few:d.fs.length≤200
 left:-1≤d.left∧d.left≤9223372036854775807
 short:∀ x∈d.names,x.length≤40
theorem dkName_len {x:Nm}(h:dkName x=true):x.length≤40:=by
 unfold dkName nameOk at h;simp only[Bool.and_eq_true,decide_eq_true_eq] at h
 exact h.1.2
theorem stepL_ok {l:Int}(h:-1≤l∧l≤9223372036854775807):-1≤stepL l∧stepL l≤9223372036854775807:=by
 unfold stepL;split<;>omega
theorem Dk.Ok.step {d:Dk}(h:d.Ok):d.step.Ok:=⟨h.nodup,h.safe,h.fits,h.room,h.few,stepL_ok h.left,h.short⟩
theorem find_none {d:Dk}{x:Nm}(h:d.find x=none):x ∉ d.names:=by
 unfold Dk.find at h;intro hx;obtain⟨q,hq,rfl⟩:=List.mem_map.1 hx
 rw[List.lookup_eq_none_iff] at h;have:=h q hq
 simp at this
theorem sum_sub:∀ {a b:List Nat},a.Sublist b→a.sum≤b.sum
 | _,_,.slnil=>Nat.le_refl _
 | _,_,.cons x h=>by have:=sum_sub h;simp;omega
 | _,_,.cons_cons x h=>by have:=sum_sub h;simp;omega
theorem used_filter (d:Dk) (x:Nm):(d.del x).used≤d.used:=by
 unfold Dk.used Dk.del;exact sum_sub (List.Sublist.map _ List.filter_sublist)
theorem names_filter {d:Dk}{x:Nm}(h:x ∉ d.names):(d.fs.filter fun p=>decide (p.1≠x))=d.fs:=by
 rw[List.filter_eq_self];intro q hq;simp
 intro e;exact h (List.mem_map.2 ⟨q,hq,e⟩)
theorem Dk.Ok.make {d:Dk}(h:d.Ok) (x:Nm):(d.make x).2.Ok:=by
 unfold Dk.make;split
 ·exact h
 ·split
  ·exact h.step
  ·rename_i hn
   split
   ·exact h.step
   ·rename_i hf
    split
    ·exact h.step
    ·rename_i hl
     have hf0:d.find x=none:=by
      cases hq:d.find x with
      | none=>rfl
      | some _=>rw[hq] at hf;exact absurd rfl hf
     have hnot:=find_none hf0
     have e:d.step.put x ⟨[],0⟩ = { d.step with fs:=d.fs++[(x,⟨[],0⟩)] }:=by
      unfold Dk.put;rw[show d.step.fs=d.fs from rfl,names_filter hnot]
     rw[e];refine⟨?_,?_,?_,h.room,?_,stepL_ok h.left,?_⟩
     ·show ((d.fs++[(x,(⟨[],0⟩:Fl))]).map (·.1)).Nodup
      rw[List.map_append];refine List.nodup_append.2 ⟨h.nodup,by simp,fun y hy z hz e=>?_⟩
      simp at hz
      exact hnot (by rw[←hz,←e];exact hy)
     ·intro p hp;rcases List.mem_append.1 hp with hp | hp
      ·exact h.safe p hp
      ·simp at hp;subst hp;exact Nat.le_refl _
     ·show ((d.fs++[(x,(⟨[],0⟩:Fl))]).map _).sum≤d.room
      rw[List.map_append,List.sum_append];have:=h.fits
      unfold Dk.used at this;simpa using this
     ·show (d.fs++[(x,(⟨[],0⟩:Fl))]).length≤200
      rw[List.length_append];have:=h.few
      simp
      omega
     ·intro y hy;have hy:y∈(d.fs++[(x,(⟨[],0⟩:Fl))]).map (·.1):=hy
      rw[List.map_append] at hy;rcases List.mem_append.1 hy with hy | hy
      ·exact h.short y hy
      ·simp at hy;subst hy;cases hd:dkName y with
       | true=>exact dkName_len hd
       | false=>exact absurd hd hn
end Go.Proofs.YtdjmifaidgbbaaaGreatDoor
