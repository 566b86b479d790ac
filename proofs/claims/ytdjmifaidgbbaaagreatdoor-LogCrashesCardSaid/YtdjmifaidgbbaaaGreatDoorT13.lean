/-
  The walk of Encode.
-/
import Derived.Test.YtdjmifaidgbbaaaGreatDoorT11
import Derived.Test.YtdjmifaidgbbaaaGreatDoorT12
set_option linter.unusedVariables false
set_option linter.unusedSimpArgs false
set_option maxHeartbeats 0
set_option maxRecDepth 200000
namespace Go.Proofs.YtdjmifaidgbbaaaGreatDoor
open Go.RowKit
theorem encode_bad (base en:Int) (a:Option Addr) (rs:List Rec) (cap:Nat) (w:World) (hb:-9223372036854775808≤base∧base≤9223372036854775807) (he:-9223372036854775808≤en∧en≤9223372036854775807) (hl:rs.length≤maxLen) (hok:∀ r∈rs,Rec.Ok r) (hc:RecsAt w a rs)
  (h0:checkB base en rs≠0) :
  Calls Tryz.prog 58 #[.agg #[.int .i64 base,.int .i64 en,.slice a rs.length cap]] w fun e w'=>e = .returned (.tuple #[.slice none 0 0,errV 65 (checkB base en rs)])∧Chg Nil w w':=by
 have HX:=Lib.hid (fun w'=>check_any base en a rs cap w' hb he hl hok)
 clear hb he hok;go_enter Tryz.func58,Tryz.ntmps58
 go_wp2_with fail;refine (HX.out _ (RecsAt.chg ((Chg.refl Nil _).alloc _) hc (fun _ _ h=>h))).mono ?_
 rintro e w1 ⟨rfl,hch⟩
 have hv:errV 65 (checkB base en rs) = .iface 65 (.int .i64 (checkB base en rs:Nat)):=if_neg h0
 rw[hv];have HV:=Lib.hid hv
 clear hv h0;go_wp2
 go_ret2;exact⟨by rw[HV.out];rfl,((Chg.refl Nil _).alloc _).trans hch (fun _ h=>h.elim)⟩
def ChainB (e:TypeId) (S:Nat→Prop) (v0:Value) (l:List UInt8) (ps:List (List UInt8)) (vs:List Value) (w:World):Prop:=
 OwnB e w (vs.getLastD v0) (l++(ps.take vs.length).flatten)∧∀ k,(vs.getLastD v0).ownBlock=some k→S k
theorem ChainB.own {e:TypeId}{S:Nat→Prop}{v0:Value}{l:List UInt8}{ps:List (List UInt8)}{vs:List Value}{w:World}{m:Nat}(h:ChainB e S v0 l ps vs w)(hm:vs.length=m) :
 OwnB e w (vs.getLastD v0) (l++(ps.take m).flatten):=by subst hm;exact h.1
theorem ChainB.step {e:TypeId}{S:Nat→Prop}{v0 v:Value}{l p:List UInt8}{ps:List (List UInt8)}{vs:List Value}{w':World}{m:Nat}(hm:vs.length=m)(hp:ps[m]? = some p)
  (hown:OwnB e w' v (l++(ps.take m).flatten++p))(hS:∀ k,v.ownBlock=some k→S k):ChainB e S v0 l ps (vs++[v]) w':=by
 subst hm;have hl:vs.length<ps.length:=(List.getElem?_eq_some_iff.1 hp).1
 have e1:(vs++[v]).getLastD v0=v:=by simp[List.getLastD_eq_getLast?]
 refine⟨?_,by rw[e1];exact hS⟩
 rw[e1,List.length_append,List.length_singleton,List.take_succ_eq_append_getElem hl,List.flatten_append,←List.append_assoc]
 have:ps[vs.length]=p:=by
  rw[List.getElem?_eq_getElem hl] at hp
  exact Option.some.inj hp
 rw[this];simpa using hown
theorem put_int (v:Value) (l:List UInt8) (n:Int) (w:World)(h0:0≤n)(hn:n≤1099511627776)(hl:l.length≤140737488355000)(hv:OwnB 5 w v l) :
  Calls Tryz.prog 97 #[v,.int .i64 n] w fun e w'=>∃ v',e = .returned v'∧OwnB 5 w' v' (l++put n.toNat)∧Grew w w' v v':=by
 obtain⟨m,rfl⟩:=Int.eq_ofNat_of_zero_le h0
 rw[Int.toNat_natCast];exact put_any v l m w (by omega) hl hv
theorem put_chain (S:Nat→Prop) (v0:Value) (l:List UInt8) (ps:List (List UInt8)) (vs:List Value) (m:Nat)(hm:vs.length=m) (n:Int)(hp:ps[m]? = some (put n.toNat)) (w:World)(h0:0≤n)(hn:n≤1099511627776)
  (hl:(l++(ps.take m).flatten).length≤140737488355000)(h:ChainB 5 S v0 l ps vs w)(hS:∀ i,w.heap.size≤i→S i) (N:Value→World→Prop)(hN:∀ v w',Chg S w w'→ChainB 5 S v0 l ps (vs++[v]) w'→N v w') :
  Calls Tryz.prog 97 #[vs.getLastD v0,.int .i64 n] w fun e w'=>∃ v,e = .returned v∧N v w':=by
 refine (put_int _ _ n w h0 hn hl (h.own hm)).mono ?_
 rintro e w3 ⟨v,rfl,hown,hg⟩
 refine⟨v,rfl,hN v w3 (hg.chg.weak fun i hi=>.inl (h.2 i hi)) (ChainB.step hm hp hown fun k hk=>?_)⟩
 rcases hg.own k hk with g | g
 ·exact h.2 k g
 ·exact hS k g
def EncPost (w:World) (base en:Int) (rs:List Rec) (e:Ending) (w':World):Prop:=
 Chg Nil w w'∧((encErr base en rs≠0∧e = .returned (.tuple #[.slice none 0 0,errV 65 (encErr base en rs)]))∨
  (encErr base en rs=0∧∃ v,e = .returned (.tuple #[v,.nilIface])∧OwnB 5 w' v (encAll base en rs)∧∀ k,v.ownBlock=some k→w.heap.size≤k))
def SumF (e:TypeId) (v:Value) (L1 L2:List UInt8) (m:Nat):List Value→World→Prop
 | [],w=>OwnB e w v L1
 | [x],w=>x = .int .i64 (m:Nat)∧OwnB e w v L1
 | _,w=>OwnB e w v L2
theorem encode_ok (base en:Int) (a:Option Addr) (rs:List Rec) (cap:Nat) (w:World) (hb:-9223372036854775808≤base∧base≤9223372036854775807) (he:-9223372036854775808≤en∧en≤9223372036854775807) (hl:rs.length≤maxLen) (hok:∀ r∈rs,Rec.Ok r) (hc:RecsAt w a rs)
  (h0:checkB base en rs=0) :
  Calls Tryz.prog 58 #[.agg #[.int .i64 base,.int .i64 en,.slice a rs.length cap]] w (EncPost w base en rs):=by
 have HX:=Lib.hid (fun w'=>check_any base en a rs cap w' hb he hl hok)
 obtain⟨c0,c1,c2,c3,c4,hfit⟩:=checkB_zero h0
 have HF:=Lib.hid hfit
 clear hb he hok hfit;have hv:errV 65 (checkB base en rs) = .nilIface:=if_pos h0
 have HV:=Lib.hid hv
 have HZ:=Lib.hid h0
 clear hv h0;go_enter Tryz.func58,Tryz.ntmps58
 go_wp2_with fail;refine (HX.out _ (RecsAt.chg ((Chg.refl Nil _).alloc _) hc (fun _ _ h=>h))).mono ?_
 rintro e w1 ⟨rfl,hch⟩
 rw[HV.out];have hfin:Chg Nil w w1:=((Chg.refl Nil _).alloc _).trans hch (fun _ h=>h.elim)
 have hbox:BoxAt w1 w.heap.size [.int .i64 base,.int .i64 en,.slice a rs.length cap]:=(BoxAt.new w [.int .i64 base,.int .i64 en,.slice a rs.length cap] 112).chg hch (fun h=>h)
 have hsz:w.heap.size<w1.heap.size:=by have:=hch.size;simp at this;omega
 have hmk:∀ w:World,(Instr.makeSlice 57 (.int .i64 8) (.int .i64 8)).run Tryz.prog w = .ok (.slice (some ⟨w.heap.size,0,none⟩) 8 8) (w.alloc (.cells #[.int .u8 0,.int .u8 0,.int .u8 0,.int .u8 0,.int .u8 0,.int .u8 0,.int .u8 0,.int .u8 0] 5)):=fun _=>by kernel_rfl
 go_upto_region 5 with fail;clear hmk;have hp0:(put base.toNat).length≤6:=put_length (k:=5) (by omega)
 have hp1:(put (en-base).toNat).length≤6:=put_length (k:=5) (by omega)
 have hp2:(put rs.length).length≤6:=put_length (k:=5) (by omega)
 have HO:Hid (OwnB 5 (w1.alloc (.cells #[.int .u8 0,.int .u8 0,.int .u8 0,.int .u8 0,.int .u8 0,.int .u8 0,.int .u8 0,.int .u8 0] 5)) (.slice (some ⟨w1.heap.size,0,none⟩) 8 8) [0,0,0,0,0,0,0,0]):=
  OwnB.new (e:=5) (w:=w1) (l:=[0,0,0,0,0,0,0,0]) (by simp[maxLen])
 go_cut [5] (fun v wx=>∃ l0:List UInt8,l0.length=8∧OwnB 5 wx v (l0++encHead base en rs.length)∧(∀ k,v.ownBlock=some k→w1.heap.size≤k)∧Chg Nil w1 wx)
 case first=>
  refine Ch.wp_region_chain _ (Chg (fun k=>w1.heap.size≤k)) [3,9,13] (ChainB 5 (fun k=>w1.heap.size≤k) (.slice (some ⟨w1.heap.size,0,none⟩) 8 8) [0,0,0,0,0,0,0,0] [put base.toNat,put (en-base).toNat,put rs.length]) (by kernel_rfl) (fun _=>Chg.refl _ _) (fun _ _ _ h k=>h.trans k (fun _ h=>.inl h)) [[],[],[1],[0,2],[],[4],[],[6],[5,7],[3,8],[],[10],[11],[9,12],[13]] rfl (by kernel_rfl) (by kernel_rfl) (Chg.refl _ _).drew ?_ ?_
  ·refine⟨?_,fun k hk=>?_⟩
   ·have h:=HO.out.drewN 1
    simp only[List.length_nil,List.take_zero,List.flatten_nil,List.append_nil,List.getLastD_nil]
    exact h
   ·have:w1.heap.size=k:=Option.some.inj hk
    omega
  iterate 3 ((with_reducible apply Ch.Walk.eq);(case hd=>rfl);(case hi=>rfl);case h=>(intro w2 hw2 N hN;(have hx:=(hbox.chg ((Chg.refl Nil _).alloc _) (fun h=>h)).chg hw2 (by omega);have hx0:=hx 0 _ rfl;have hx1:=hx 1 _ rfl;have hx2:=hx 2 _ rfl;clear hx);simp only[Ch.depB];go_simp;(try go_bits);with_reducible exact hN _ (Chg.refl _ _) (fun _ h=>h)))
  refine Ch.Walk.chain 0 rfl rfl ?_ ?_
  ·intro w2 hw2 vs hvs hF N hN;have hsw:=hw2.size
   simp at hsw
   obtain rfl:=List.eq_nil_of_length_eq_zero hvs
   simp only[Ch.depB,Ch.depC,Nat.reduceBEq,Nat.reduceAdd]
   go_simp;exact put_chain _ _ _ _ [] 0 rfl base rfl w2 (by omega) (by omega) (by simp) hF (fun i hi=>by omega) N hN
  iterate 5 ((with_reducible apply Ch.Walk.eq);(case hd=>rfl);(case hi=>rfl);case h=>(intro w2 hw2 N hN;(have hx:=(hbox.chg ((Chg.refl Nil _).alloc _) (fun h=>h)).chg hw2 (by omega);have hx0:=hx 0 _ rfl;have hx1:=hx 1 _ rfl;have hx2:=hx 2 _ rfl;clear hx);simp only[Ch.depB];go_simp;(try go_bits);with_reducible exact hN _ (Chg.refl _ _) (fun _ h=>h)))
  refine Ch.Walk.chain 1 rfl rfl ?_ ?_
  ·intro w2 hw2 vs hvs hF N hN;have hsw:=hw2.size
   simp at hsw
   obtain⟨v1,rfl⟩:=List.length_eq_one_iff.1 hvs
   simp only[Ch.depB,Ch.depC,Nat.reduceBEq,Nat.reduceAdd]
   go_simp;exact put_chain _ _ _ _ [v1] 1 rfl (en-base) rfl w2 (by omega) (by omega) (by simp;omega) hF (fun i hi=>by omega) N hN
  iterate 3 ((with_reducible apply Ch.Walk.eq);(case hd=>rfl);(case hi=>rfl);case h=>(intro w2 hw2 N hN;(have hx:=(hbox.chg ((Chg.refl Nil _).alloc _) (fun h=>h)).chg hw2 (by omega);have hx0:=hx 0 _ rfl;have hx1:=hx 1 _ rfl;have hx2:=hx 2 _ rfl;clear hx);simp only[Ch.depB];go_simp;(try go_bits);with_reducible exact hN _ (Chg.refl _ _) (fun _ h=>h)))
  refine Ch.Walk.chain 2 rfl rfl ?_ ?_
  ·intro w2 hw2 vs hvs hF N hN;have hsw:=hw2.size
   simp at hsw
   obtain⟨v1,v2,rfl⟩:=length_two hvs
   simp only[Ch.depB,Ch.depC,Nat.reduceBEq,Nat.reduceAdd]
   go_simp;exact put_chain _ _ _ _ [v1,v2] 2 rfl (rs.length:Int) rfl w2 (by omega) (by omega) (by simp;omega) hF (fun i hi=>by omega) N hN
  refine Ch.Walk.copy 13 rfl rfl rfl ⟨rfl,28,.inr rfl,rfl⟩ ?_
  intro w2 hw2;simp only[List.nil_append,List.cons_append,Ch.Fin,List.map_cons,List.map_nil,List.getD_cons_zero,List.getD_cons_succ]
  intro v1 _ v2 _ v3 _ hF;go_simp;go_wp2_with fail;go_meet
  case rel=>
   have hS:=hw2.size
   refine⟨[0,0,0,0,0,0,0,0],rfl,?_,hF.2,?_⟩
   ·have h:=hF.1
    simp only[List.length_cons,List.length_nil,List.take_succ_cons,List.take_zero,List.flatten_cons,List.flatten_nil,List.append_nil] at h
    unfold encHead;rw[List.append_assoc (put base.toNat)]
    exact h
   ·exact ((Chg.refl Nil _).alloc _).trans hw2 (fun i hi=>.inr hi)
 case rest=>
  obtain⟨l0,hl0,hown,hS,hch2⟩:=hcut
  have hxb:=hbox.chg hch2 (fun h=>h)
  have hr1:RecsAt w1 a rs:=RecsAt.chg hch (RecsAt.chg ((Chg.refl Nil _).alloc _) hc (fun _ _ h=>h)) (fun _ _ h=>h)
  have hx2:=hxb 2 _ rfl
  go_wp2_with fail;clear hxb hx2;go_loopw [5,32] (fun v i wr=>∃ k:Nat,k≤rs.length∧i = .int .i64 k∧OwnB 5 wr v (l0++encHead base en rs.length++encRecs base (rs.take k))∧(∀ b,v.ownBlock=some b→w1.heap.size≤b)∧Chg Nil w1 wr) (fun _ i _=>rs.length-(intOf i).toNat)
  case atStart=>exact⟨0,Nat.zero_le _,rfl,by simpa [encRecs] using hown,hS,hch2⟩
  case round=>
   clear hown hS hch2;obtain⟨k,hk,rfl,hown,hS,hch2⟩:=hrel
   by_cases hlt:k<rs.length
   ·obtain⟨b,off,rfl,hcell⟩:=RecsAt.chg hch2 hr1 (fun _ _ h=>h) k hlt
    have g0:wr.cell? ⟨b,off+k*6,none⟩=_:=hcell 0 _ rfl
    have g1:=hcell 1 _ rfl
    have g2:=hcell 2 _ rfl
    have g3:=hcell 3 _ rfl
    have g4:=hcell 4 _ rfl
    have g5:=hcell 5 _ rfl
    have hfit:=HF.out _ (List.getElem_mem hlt)
    have hlen:=encRecs_length c4 (rs:=rs.take k) (fun r hr=>HF.out r (List.mem_of_mem_take hr))
    rw[List.length_take,Nat.min_eq_left hk] at hlen
    have HE:Hid (encRecs base (rs.take (k+1))=encRecs base (rs.take k)++encRec base rs[k]):=by
     unfold Hid;rw[take_snoc rs k hlt,encRecs_append]
     simp[encRecs]
    have hsz2:=hch2.size
    have hxb:=hbox.chg hch2 (fun h=>h)
    clear hcell hr1 hc hbox;generalize rs[k]=r at *;obtain⟨ro,rt,rk,rkey,rg,rval⟩:=r
    simp only at g0 g1 g2 g3 g4 g5
    go_upto_if 37 with fail
    have hbx:BoxAt (wr.alloc (.cells #[.int .i64 ro,.int .i64 rt,.bool rk,.string rkey,.bool rg,.string rval] 37)) wr.heap.size [.int .i64 ro,.int .i64 rt,.bool rk,.string rkey,.bool rg,.string rval]:=BoxAt.new _ _ _
    have hown1:=hown.alloc (.cells #[.int .i64 ro,.int .i64 rt,.bool rk,.string rkey,.bool rg,.string rval] 37)
    have hch3:Chg Nil w1 (wr.alloc (.cells #[.int .i64 ro,.int .i64 rt,.bool rk,.string rkey,.bool rg,.string rval] 37)):=hch2.alloc _
    have hxb1:=hxb.chg ((Chg.refl Nil wr).alloc (.cells #[.int .i64 ro,.int .i64 rt,.bool rk,.string rkey,.bool rg,.string rval] 37)) (fun h=>h)
    have hgb:wr.heap.size<(wr.alloc (.cells #[.int .i64 ro,.int .i64 rt,.bool rk,.string rkey,.bool rg,.string rval] 37)).heap.size:=by simp
    have hvb:∀ k,u5.ownBlock=some k→k<wr.heap.size:=fun k hk=>hown.lt k hk
    clear hown hch2 hxb g0 g1 g2 g3 g4 g5;generalize (wr.alloc (.cells #[.int .i64 ro,.int .i64 rt,.bool rk,.string rkey,.bool rg,.string rval] 37))=wb at *
    generalize wr.heap.size=gr at *;have e2:=hbx 2 _ rfl
    go_cut [8] (fun s8 wx=>s8 = .int .i64 (if rk=true then 1 else 0)∧wx=wb)
    case first=>
     cases rk
     ·go_wp2_with fail;go_meet
      case rel=>exact⟨rfl,rfl⟩
     ·go_wp2_with fail;go_meet
      case rel=>exact⟨rfl,rfl⟩
    case rest=>
     obtain⟨rfl,rfl⟩:=hcut
     clear e2;have e4:=hbx 4 _ rfl
     go_upto_if 41 with fail
     go_cut [8] (fun s8 wx=>s8 = .int .i64 ((if rk=true then 1 else 0)+(if rg=true then 2 else 0):Nat)∧wx=wc)
     case first=>
      cases rk<;>cases rg
      all_goals
       go_wp2_with fail;go_meet
       case rel=>exact⟨rfl,rfl⟩
     case rest=>
      obtain⟨rfl,rfl⟩:=hcut
      clear e4;have hfl:(if rk=true then 1 else 0)+(if rg=true then 2 else 0)≤3:=by split<;>split<;>omega
      have HFL:Hid (Rec.flags ⟨ro,rt,rk,rkey,rg,rval⟩=(if rk=true then 1 else 0)+(if rg=true then 2 else 0)):=rfl
      generalize (if rk=true then 1 else 0)+(if rg=true then 2 else 0)=fl at *;have q1:=hfit.lo
      have q2:=hfit.hi
      have q3:=hfit.t0
      have q4:=hfit.t1
      simp only at q1 q2 q3 q4
      have hp0:(put (ro-base).toNat).length≤6:=put_length (k:=5) (by omega)
      have hp1:(put rt.toNat).length≤6:=put_length (k:=5) (by omega)
      have hp2:(put fl).length≤6:=put_length (k:=5) (by omega)
      have hh0:(encHead base en rs.length).length≤18:=by
       unfold encHead;simp only[List.length_append]
       omega
      have hgS:¬(u5.ownBlock=some gr∨wc.heap.size≤gr):=by
       rintro (h | h)
       ·have:=hvb _ h;omega
       ·omega
      have hwS:¬(u5.ownBlock=some w.heap.size∨wc.heap.size≤w.heap.size):=by
       rintro (h | h)
       ·have:=hS _ h;omega
       ·omega
      go_upto_region 14 with fail;go_cut [5] (fun v wx=>OwnB 5 wx v ((l0++encHead base en rs.length++encRecs base (rs.take k))++(put (ro-base).toNat++put rt.toNat++put fl))∧(∀ b,v.ownBlock=some b→w1.heap.size≤b∧b≠gr)∧Chg Nil w1 wx∧BoxAt wx gr [.int .i64 ro,.int .i64 rt,.bool rk,.string rkey,.bool rg,.string rval]∧gr<wx.heap.size)
      case first=>
       refine Ch.wp_region_chain _ (Chg (fun k=>u5.ownBlock=some k∨wc.heap.size≤k)) [6,9,11] (ChainB 5 (fun k=>u5.ownBlock=some k∨wc.heap.size≤k) u5 (l0++encHead base en rs.length++encRecs base (rs.take k)) [put (ro-base).toNat,put rt.toNat,put fl]) (by kernel_rfl) (fun _=>Chg.refl _ _) (fun _ _ _ h k=>h.trans k (fun _ h=>.inl h)) [[],[],[1],[],[3],[2,4],[0,5],[],[7],[6,8],[],[9,10],[11]] rfl (by kernel_rfl) (by kernel_rfl) (Chg.refl _ _).drew ?_ ?_
       ·refine⟨?_,fun k hk=>.inl hk⟩
        have h:=hown1.drewN 1
        simp only[List.length_nil,List.take_zero,List.flatten_nil,List.append_nil,List.getLastD_nil]
        exact h
       iterate 6 ((with_reducible apply Ch.Walk.eq);(case hd=>rfl);(case hi=>rfl);case h=>(intro w2 hw2 N hN;(have hx:=hbx.chg hw2 hgS;have hy:=hxb1.chg hw2 hwS;have hx0:=hx 0 _ rfl;have hx1:=hx 1 _ rfl;have hy0:=hy 0 _ rfl;clear hx hy);simp only[Ch.depB];go_simp;(try go_bits);with_reducible exact hN _ (Chg.refl _ _) (fun _ h=>h)))
       refine Ch.Walk.chain 0 rfl rfl ?_ ?_
       ·intro w2 hw2 vs hvs hF N hN;have hsw:=hw2.size
        obtain rfl:=List.eq_nil_of_length_eq_zero hvs
        simp only[Ch.depB,Ch.depC,Nat.reduceBEq,Nat.reduceAdd]
        go_simp;exact put_chain _ _ _ _ [] 0 rfl (ro-base) rfl w2 (by omega) (by omega) (by simp;omega) hF (fun i hi=>.inr (by omega)) N hN
       iterate 2 ((with_reducible apply Ch.Walk.eq);(case hd=>rfl);(case hi=>rfl);case h=>(intro w2 hw2 N hN;(have hx:=hbx.chg hw2 hgS;have hy:=hxb1.chg hw2 hwS;have hx0:=hx 0 _ rfl;have hx1:=hx 1 _ rfl;have hy0:=hy 0 _ rfl;clear hx hy);simp only[Ch.depB];go_simp;(try go_bits);with_reducible exact hN _ (Chg.refl _ _) (fun _ h=>h)))
       refine Ch.Walk.chain 1 rfl rfl ?_ ?_
       ·intro w2 hw2 vs hvs hF N hN;have hsw:=hw2.size
        obtain⟨v1,rfl⟩:=List.length_eq_one_iff.1 hvs
        simp only[Ch.depB,Ch.depC,Nat.reduceBEq,Nat.reduceAdd]
        go_simp;exact put_chain _ _ _ _ [v1] 1 rfl rt rfl w2 (by omega) (by omega) (by simp;omega) hF (fun i hi=>.inr (by omega)) N hN
       iterate 1 ((with_reducible apply Ch.Walk.eq);(case hd=>rfl);(case hi=>rfl);case h=>(intro w2 hw2 N hN;(have hx:=hbx.chg hw2 hgS;have hy:=hxb1.chg hw2 hwS;have hx0:=hx 0 _ rfl;have hx1:=hx 1 _ rfl;have hy0:=hy 0 _ rfl;clear hx hy);simp only[Ch.depB];go_simp;(try go_bits);with_reducible exact hN _ (Chg.refl _ _) (fun _ h=>h)))
       refine Ch.Walk.chain 2 rfl rfl ?_ ?_
       ·intro w2 hw2 vs hvs hF N hN;have hsw:=hw2.size
        obtain⟨v1,v2,rfl⟩:=length_two hvs
        simp only[Ch.depB,Ch.depC,Nat.reduceBEq,Nat.reduceAdd]
        go_simp;exact put_chain _ _ _ _ [v1,v2] 2 rfl (fl:Int) rfl w2 (by omega) (by omega) (by simp;omega) hF (fun i hi=>.inr (by omega)) N hN
       refine Ch.Walk.copy 11 rfl rfl rfl ⟨rfl,55,.inr rfl,rfl⟩ ?_
       intro w2 hw2;simp only[List.nil_append,List.cons_append,Ch.Fin,List.map_cons,List.map_nil,List.getD_cons_zero,List.getD_cons_succ]
       intro v1 _ v2 _ v3 _ hF;go_simp;go_wp2_with fail;go_meet
       case rel=>
        have hsw:=hw2.size
        refine⟨?_,fun k hk=>?_,hch3.trans hw2 (fun i hi=>.inr ?_),hbx.chg hw2 hgS,by omega⟩
        ·have h:=hF.1
         simp only[List.length_cons,List.length_nil,List.take_succ_cons,List.take_zero,List.flatten_cons,List.flatten_nil,List.append_nil] at h
         rw[List.append_assoc (put (ro-base).toNat)]
         exact h
        ·rcases hF.2 k hk with h | h
         ·exact⟨hS k h,by have:=hvb k h;omega⟩
         ·exact⟨by have:=hch3.size;omega,by omega⟩
        ·rcases hi with h | h
         ·exact hS i h
         ·have:=hch3.size;omega
      case rest=>
       clear hbx hxb1 hown1 hch3 hS hgS hwS hvb hgb;obtain⟨hown,hS,hch,hbx,hgb⟩:=hcut
       have e2:=hbx 2 _ rfl
       go_upto_if 57 with fail
       have hsk:rkey.size≤60:=hfit.key
       have hsv:rval.size≤500:=hfit.value
       have hb1:((l0++encHead base en rs.length++encRecs base (rs.take k))++(put (ro-base).toNat++put rt.toNat++put fl)).length≤100000:=by
        simp only[List.length_append]
        omega
       go_cut [5] (fun v wx=>OwnB 5 wx v (((l0++encHead base en rs.length++encRecs base (rs.take k))++(put (ro-base).toNat++put rt.toNat++put fl))++(if rk=true then putText rkey else []))∧(∀ b,v.ownBlock=some b→w1.heap.size≤b∧b≠gr)∧Chg Nil w1 wx∧BoxAt wx gr [.int .i64 ro,.int .i64 rt,.bool rk,.string rkey,.bool rg,.string rval]∧gr<wx.heap.size)
       case first=>
        have e3:=hbx 3 _ rfl
        cases rk
        ·go_wp2_with fail;go_meet
         case rel=>exact⟨by simpa using hown,hS,hch,hbx,hgb⟩
        ·have HO:=Lib.hid hown
         clear hown;go_wp2_with fail;refine (text_any _ _ rkey _ (by omega) (by omega) HO.out).mono ?_
         rintro e w2 ⟨v2,rfl,hown2,hg2⟩
         have hs2:=hg2.chg.size
         go_wp2_with fail;go_meet
         case rel=>
          refine⟨by simpa using hown2,fun k hk=>?_,hch.trans hg2.chg (fun i hi=>.inr (hS i hi).1),hbx.chg hg2.chg (fun h=>(hS _ h).2 rfl),by omega⟩
          rcases hg2.own k hk with h | h
          ·exact hS k h
          ·exact⟨by have:=hch.size;omega,by omega⟩
       case rest=>
        clear hown hS hch hbx hgb e2;obtain⟨hown,hS,hch,hbx,hgb⟩:=hcut
        have e4:=hbx 4 _ rfl
        go_upto_if 64 with fail
        have hb2:(((l0++encHead base en rs.length++encRecs base (rs.take k))++(put (ro-base).toNat++put rt.toNat++put fl))++(if rk=true then putText rkey else [])).length≤101000:=by
         rw[List.length_append];have:(if rk=true then putText rkey else []).length≤66:=by
          split
          ·have:=putText_length (s:=rkey) (by omega);omega
          ·simp
         omega
        have e5:=hbx 5 _ rfl
        cases rg
        ·have HO:=Lib.hid hown
         clear hown;go_wp2_with fail;refine (text_any _ _ rval _ (by omega) (by omega) HO.out).mono ?_
         rintro e w2 ⟨v2,rfl,hown2,hg2⟩
         have HO2:=Lib.hid hown2
         clear hown2;go_wp2_with fail;go_roundw
         case rel=>
          refine⟨k+1,by omega,by go_num,?_,fun i hi=>?_,hch.trans hg2.chg (fun i hi=>.inr (hS i hi).1)⟩
          ·rw[HE.out];unfold encRec;rw[HFL.out];simpa only[List.append_assoc,Bool.false_eq_true,if_false] using HO2.out
          ·rcases hg2.own i hi with h | h
           ·exact (hS i h).1
           ·have:=hch.size;omega
         case measure=>simp[intOf];omega
        ·have HO:=Lib.hid hown
         clear hown;go_wp2_with fail;go_roundw
         case rel=>
          refine⟨k+1,by omega,by go_num,?_,fun i hi=>(hS i hi).1,hch⟩
          rw[HE.out];unfold encRec;rw[HFL.out];simpa only[List.append_assoc,if_true,List.append_nil] using HO.out
         case measure=>simp[intOf];omega
   ·have hkl:k=rs.length:=by omega
    have HT:Hid (encRecs base (rs.take k)=encRecs base rs):=by unfold Hid;rw[List.take_of_length_le (by omega)]
    rw[HT.out] at hown;clear hkl HT;have hlen:=encRecs_length c4 (rs:=rs) HF.out
    have hh0:(encHead base en rs.length).length≤18:=by
     unfold encHead;simp only[List.length_append]
     omega
    rw[List.append_assoc] at hown;have HBody:Hid (encHead base en rs.length++encRecs base rs=encBody base en rs):=rfl
    rw[HBody.out] at hown;have hblen:(encBody base en rs).length≤40000:=by rw[←HBody.out,List.length_append];omega
    clear hlen hh0 hr1 hc hbox HBody;obtain⟨g,cap5,rfl,hcap⟩:=hown.slice (by
     intro h;have:=congrArg List.length h
     rw[List.length_append,hl0] at this;simp at this)
    have hln:(l0++encBody base en rs).length=8+(encBody base en rs).length:=by rw[List.length_append,hl0]
    have hSg:w1.heap.size≤g:=hS g rfl
    have hbl:(l0++encBody base en rs).length≤50000:=by omega
    have HL:=Lib.hid hln
    have hb8:8≤(l0++encBody base en rs).length:=by omega
    have HD:Hid ((l0++encBody base en rs).drop 8=encBody base en rs):=by unfold Hid;rw[←hl0,List.drop_left]
    have hbp:0<(encBody base en rs).length:=by
     unfold encBody encHead;simp only[List.length_append]
     have:=put_length_pos base.toNat
     omega
    by_cases h6:6000<8+(encBody base en rs).length
    ·have h6':6000<(l0++encBody base en rs).length:=by omega
     have HP:Hid (encErr base en rs=4):=by unfold Hid encErr;rw[if_neg (by rw[HZ.out];simp),if_pos h6]
     clear hln hown hS HD h6;generalize l0++encBody base en rs=L at *;go_wp2_with fail;go_ret2;exact⟨hfin.trans hch2 (fun _ h=>h.elim),.inl ⟨by rw[HP.out];simp,by rw[HP.out];rfl⟩⟩
    ·have h6':¬6000<(l0++encBody base en rs).length:=by omega
     have hn8:¬cap5=8:=by omega
     have hn4:¬cap5=4:=by omega
     have HP:Hid (encErr base en rs=0):=by unfold Hid encErr;rw[if_neg (by rw[HZ.out];simp),if_neg h6]
     have HA:Hid (encAll base en rs=four (8+(encBody base en rs).length)++four (sumOf (encBody base en rs))++encBody base en rs):=rfl
     have HO:=Lib.hid hown
     clear hln hown hS h6;generalize l0++encBody base en rs=L at *;generalize encBody base en rs=body at *;go_wp2_with fail;refine (four_any g L.length cap5 0 cap5 L.length L L.length wr (by omega) (by omega) HO.out).mono ?_
     rintro e w2 ⟨rfl,hown2,hch3⟩
     have hL1:([]++four L.length++L.drop 4).length=L.length:=by simp[four];omega
     have HL1:Hid (([]++four L.length++L.drop 4).drop 8=body):=by
      unfold Hid;rw[List.nil_append,List.drop_append,List.drop_eq_nil_of_le (by simp[four]),List.nil_append]
      simp only[four,List.length_cons,List.length_nil,List.drop_drop]
      exact HD.out
     have HT1:Hid (([]++four L.length++L.drop 4).take 4=four L.length):=by
      unfold Hid;rw[List.nil_append,List.take_append_of_le_length (by simp[four]),List.take_of_length_le (by simp[four])]
     simp only[List.take_zero,Nat.zero_add] at hown2
     generalize []++four L.length++L.drop 4=L1 at *;have HO2:=Lib.hid hown2
     clear hown2;go_upto_region 23 with fail;have k1:(4:Int)≤(L.length:Int):=by omega
     have k2:(8:Int)≤(L.length:Int):=by omega
     have k3:(L.length:Int)≤(cap5:Int):=by omega
     refine Ch.wp_region_chain _ (Chg (fun k=>k=g)) [4,5] (SumF 5 (.slice (some ⟨g,0,none⟩) L.length cap5) L1 (L1.take 4++four (sumOf body)++L1.drop 8) (sumOf body)) (by kernel_rfl) (fun _=>Chg.refl _ _) (fun _ _ _ h k=>h.trans k (fun _ h=>.inl h)) [[],[0],[],[2],[3],[1,4]] rfl (by kernel_rfl) (by kernel_rfl) (Chg.refl _ _).drew ?_ ?_
     ·exact HO2.out.drewN 1
     iterate 4 ((with_reducible apply Ch.Walk.eq);(case hd=>rfl);(case hi=>rfl);case h=>(intro w2 hw2 N hN;simp only[Ch.depB];go_simp;(try go_bits);with_reducible exact hN _ (Chg.refl _ _) (fun _ h=>h)))
     refine Ch.Walk.chain 0 rfl rfl ?_ ?_
     ·intro w3 hw3 vs hvs hF N hN;obtain rfl:=List.eq_nil_of_length_eq_zero hvs
      simp only[Ch.depB,Ch.depC,Nat.reduceBEq,Nat.reduceAdd]
      go_simp;have hbl2:L.length-8=body.length:=by have:=HL.out;omega
      have hown3:OwnB 5 w3 (.slice (some ⟨g,0,none⟩) L.length cap5) L1:=hF
      obtain⟨a3,cap3,hv3,hby3,hm3,_⟩:=hown3.val
      simp only[Value.slice.injEq] at hv3
      obtain⟨rfl,_,rfl⟩:=hv3
      have hby:BytesAt w3 (some ⟨g,8,none⟩) body:=by
       have h:=hby3.drop 8
       rw[HL1.out] at h;simpa using h
      rw[hbl2];refine (sum_any (some ⟨g,8,none⟩) body (cap5-8) w3 (by unfold maxLen;omega) hby).mono ?_
      rintro e w4 ⟨rfl,rfl⟩
      exact⟨_,rfl,hN _ _ (Chg.refl _ _) ⟨rfl,hown3⟩⟩
     refine Ch.Walk.chain 1 rfl rfl ?_ ?_
     ·intro w3 hw3 vs hvs hF N hN;obtain⟨v1,rfl⟩:=List.length_eq_one_iff.1 hvs
      obtain⟨rfl,hown3⟩:=hF
      simp only[Ch.depB,Ch.depC,Nat.reduceBEq,Nat.reduceAdd]
      go_simp;refine (four_any g L.length cap5 4 (cap5-4) (L.length-4) L1 (sumOf body) w3 (by omega) (by omega) hown3).mono ?_
      rintro e w4 ⟨rfl,hown4,hch4⟩
      exact⟨_,rfl,hN _ _ hch4 hown4⟩
     intro w3 hw3;simp only[List.nil_append,List.cons_append,Ch.Fin,List.map_cons,List.map_nil,List.getD_cons_zero,List.getD_cons_succ]
     intro v1 _ v2 _ hF;go_simp;have hown3:OwnB 5 w3 (.slice (some ⟨g,0,none⟩) L.length cap5) (L1.take 4++four (sumOf body)++L1.drop 8):=hF
     have HO3:=Lib.hid hown3
     clear hF hown3;go_wp2_with fail;go_ret2;refine⟨(hfin.trans hch2 (fun _ h=>h.elim)).trans (hch3.trans hw3 (fun i hi=>.inl hi)) (fun i hi=>.inr ?_),.inr ⟨HP.out,_,rfl,?_,fun i hi=>?_⟩⟩
     ·subst hi;have:=hfin.size;omega
     ·rw[HA.out,←HL.out,←HT1.out];have h:=HO3.out
      rw[HL1.out] at h;exact h
     ·have h1:g=i:=Option.some.inj hi
      subst h1;have:=hfin.size;omega
structure Rd (w:World) (g b off cap:Nat) (l:List UInt8) (bad:Bool):Prop where
 ne:b≠g
 fits:l.length≤cap
 most:cap≤maxLen
 c0:w.cell? ⟨g,0,none⟩=some (.slice (some ⟨b,off,none⟩) l.length cap)
 c1:w.cell? ⟨g,1,none⟩=some (.bool bad)
 f0:w.frozen? ⟨g,0,none⟩=false
 f1:w.frozen? ⟨g,1,none⟩=false
 bytes:BytesAt w (some ⟨b,off,none⟩) l
theorem Rd.move {w w':World}{g b off cap:Nat}{l:List UInt8}{bad bad':Bool}(h:Rd w g b off cap l bad) (k off':Nat)(hk:k≤l.length)(ho:k<cap→off'=off+k)
  (c0:w'.cell? ⟨g,0,none⟩=some (.slice (some ⟨b,off',none⟩) (l.length-k) (cap-k))) (c1:w'.cell? ⟨g,1,none⟩=some (.bool bad'))(hf:∀ q,w'.frozen? q=w.frozen? q)(hc:Chg (fun i=>i=g) w w') :
  Rd w' g b off' (cap-k) (l.drop k) bad':=by
 refine⟨h.ne,by rw[List.length_drop];have:=h.fits;omega,by have:=h.most;omega,by rw[List.length_drop];exact c0,c1,by rw[hf];exact h.f0,by rw[hf];exact h.f1,?_⟩
 have hb:=hc.bytesAt h.bytes (fun x hx e=>h.ne (by cases hx;exact e))
 by_cases hkc:k<cap
 ·rw[ho hkc];exact hb.drop k
 ·intro i hi;rw[List.length_drop] at hi;have:=h.fits
  omega
theorem num_any (g b off cap:Nat) (l:List UInt8) (bad:Bool) (w:World) (h:Rd w g b off cap l bad) :
  Calls Tryz.prog 128 #[.pointer (some ⟨g,0,none⟩)] w fun e w'=>e = .returned (.int .i64 (get l).1)∧Chg (fun k=>k=g) w w'∧∃ off2,Rd w' g b off2 (cap-(get l).2) (l.drop (get l).2) (bad||(get l).2==0):=by
 have HR:=Lib.hid h
 obtain⟨hne,hfit,hmost,hc0,hc1,hf0,hf1,hb⟩:=h
 have hgs:=(get_size l).1
 have hG:=Lib.hid (get_any (some ⟨b,off,none⟩) l cap w (Nat.le_trans hfit hmost) hb)
 clear hb hmost hne;go_enter Tryz.func128,Tryz.ntmps128
 go_wp2_with fail;refine hG.out.mono ?_
 rintro e w1 ⟨rfl,rfl⟩
 generalize hn:(get l).1=n at *;generalize hs:(get l).2=s at *
 have HN:=Lib.hid hn
 have HS:=Lib.hid hs
 clear hn hs hG;by_cases h0:s=0
 ·subst h0;go_wp2
  go_ret;refine⟨by rw[HN.out];rfl,((Chg.refl (fun k=>k=g) _).setCell (.inl rfl) _).setCell (.inl rfl) _,off,?_⟩
  rw[HS.out];refine HR.out.move 0 off (Nat.zero_le _) (fun _=>rfl) (by rw[cell_set (cell_set hc0)];rfl) (by rw[cell_set (cell_set hc1)];simp) (fun q=>by rw[frozen_set,frozen_set]) (((Chg.refl (fun k=>k=g) _).setCell (.inl rfl) _).setCell (.inl rfl) _)
 ·have hs0:((s:Int)==0)=false:=by simp;omega
  by_cases hcs:cap=s
  ·have hx:=HR.out
   subst hcs;go_wp2
   go_ret;refine⟨by rw[HN.out];rfl,(Chg.refl (fun k=>k=g) _).setCell (.inl rfl) _,off,?_⟩
   rw[HS.out];refine hx.move cap off hgs (fun h=>by omega) (by rw[cell_set hc0,show l.length-cap=0 by omega,Nat.sub_self];rfl) (by rw[cell_set hc1];simp[h0]) (fun q=>by rw[frozen_set]) ((Chg.refl (fun k=>k=g) _).setCell (.inl rfl) _)
  ·go_wp2
   go_ret;refine⟨by rw[HN.out];rfl,(Chg.refl (fun k=>k=g) _).setCell (.inl rfl) _,off+s,?_⟩
   rw[HS.out];refine HR.out.move s (off+s) hgs (fun _=>rfl) (by rw[cell_set hc0];rfl) (by rw[cell_set hc1];simp[h0]) (fun q=>by rw[frozen_set]) ((Chg.refl (fun k=>k=g) _).setCell (.inl rfl) _)
def textN (l:List UInt8):Nat:=if (l.drop (get l).2).length<(get l).1 then 0 else (get l).1
def textS (l:List UInt8):List UInt8:=(l.drop (get l).2).take (textN l)
def textRest (l:List UInt8):List UInt8:=(l.drop (get l).2).drop (textN l)
def textBad (l:List UInt8) (bad:Bool):Bool:=bad||(get l).2==0||decide ((l.drop (get l).2).length<(get l).1)
theorem rtext_any (g b off cap:Nat) (l:List UInt8) (bad:Bool) (w:World) (h:Rd w g b off cap l bad) :
  Calls Tryz.prog 129 #[.pointer (some ⟨g,0,none⟩)] w fun e w'=>e = .returned (.string ⟨(textS l).toArray⟩)∧Chg (fun k=>k=g) w w'∧∃ off2 cap2,Rd w' g b off2 cap2 (textRest l) (textBad l bad):=by
 go_enter Tryz.func129,Tryz.ntmps129
 go_wp2_with fail;refine (num_any g b off cap l bad w h).mono ?_
 rintro e w1 ⟨rfl,hch,off2,hR⟩
 have HS:Hid (textS l=(l.drop (get l).2).take (textN l)):=rfl
 have HT:Hid (textRest l=(l.drop (get l).2).drop (textN l)):=rfl
 have HB:Hid (textBad l bad=(bad||(get l).2==0||decide ((l.drop (get l).2).length<(get l).1))):=rfl
 have HN:Hid (textN l=if (l.drop (get l).2).length<(get l).1 then 0 else (get l).1):=rfl
 have hn40:=get_le l
 generalize (bad||(get l).2==0)=bad1 at *;generalize cap-(get l).2=cap1 at *
 generalize l.drop (get l).2=l1 at *;generalize (get l).1=n at *
 clear h;have HR:=Lib.hid hR
 obtain⟨hne,hfit,hmost,hc0,hc1,hf0,hf1,hb⟩:=hR
 by_cases hn:l1.length<n
 ·have hcv:=conv_bytes (w:=w1.setCell ⟨g,1,none⟩ (.bool true)) (dst:=9) Tryz.underlying57 Tryz.underlying5 Tryz.underlying9
   (show BytesAt (w1.setCell ⟨g,1,none⟩ (.bool true)) (some ⟨b,off2,none⟩) [] from fun i hi=>absurd hi (Nat.not_lt_zero _)) cap1
  have HN0:Hid (textN l=0):=by unfold Hid;rw[HN.out,if_pos hn]
  have HB0:Hid (textBad l bad=true):=by unfold Hid;rw[HB.out];simp[hn]
  rw[List.length_nil] at hcv;clear hb hmost hne;go_wp2_with fail;go_ret;refine⟨by rw[HS.out,HN0.out];rfl,hch.trans (((Chg.refl (fun k=>k=g) _).setCell (.inl rfl) _).setCell (.inl rfl) _) (fun _ h=>.inl h),off2,cap1,?_⟩
  rw[HT.out,HN0.out,HB0.out];refine HR.out.move 0 off2 (Nat.zero_le _) (fun _=>rfl) (by rw[cell_set (cell_set hc0)];rfl) (by rw[cell_set (cell_set hc1)];rfl) (fun q=>by rw[frozen_set,frozen_set]) (((Chg.refl (fun k=>k=g) _).setCell (.inl rfl) _).setCell (.inl rfl) _)
 ·have hb2:=hb.take n
  have hle:(l1.take n).length=n:=by rw[List.length_take];omega
  have hcv:=conv_bytes (dst:=9) Tryz.underlying57 Tryz.underlying5 Tryz.underlying9 hb2 cap1
  rw[hle] at hcv;have HN0:Hid (textN l=n):=by unfold Hid;rw[HN.out,if_neg hn]
  have HB0:Hid (textBad l bad=bad1):=by unfold Hid;rw[HB.out];simp[hn]
  clear hb hmost hne hle hb2;by_cases hcs:cap1=n
  ·have hx:=HR.out
   subst hcs;go_wp2_with fail;go_ret;refine⟨by rw[HS.out,HN0.out];rfl,hch.trans ((Chg.refl (fun k=>k=g) _).setCell (.inl rfl) _) (fun _ h=>.inl h),off2,cap1-cap1,?_⟩
   rw[HT.out,HN0.out,HB0.out];refine hx.move cap1 off2 (by omega) (fun h=>by omega) (by rw[cell_set hc0,show l1.length-cap1=0 by omega,Nat.sub_self];rfl) (by rw[cell_set hc1];rfl) (fun q=>by rw[frozen_set]) ((Chg.refl (fun k=>k=g) _).setCell (.inl rfl) _)
  ·go_wp2_with fail;go_ret;refine⟨by rw[HS.out,HN0.out];rfl,hch.trans ((Chg.refl (fun k=>k=g) _).setCell (.inl rfl) _) (fun _ h=>.inl h),off2+n,cap1-n,?_⟩
   rw[HT.out,HN0.out,HB0.out];refine HR.out.move n (off2+n) (by omega) (fun _=>rfl) (by rw[cell_set hc0];rfl) (by rw[cell_set hc1];rfl) (fun q=>by rw[frozen_set]) ((Chg.refl (fun k=>k=g) _).setCell (.inl rfl) _)
def pickN (a:Int) (n:Nat):Nat:=(a % 18446744073709551616 % (n:Int)).toNat
theorem pickN_lt {a:Int}{n:Nat}(h:0<n):pickN a n<n:=by
 unfold pickN;have h1:0≤a % 18446744073709551616 % (n:Int):=Int.emod_nonneg _ (by omega)
 have h2:a % 18446744073709551616 % (n:Int)<n:=Int.emod_lt_of_pos _ (by omega)
 omega
theorem pick_eq {a:Int}{n:Nat}(h:0<n)(hn:n≤1000000):wrap64 ((IntKind.u64.wrap a).tmod (n:Int))=(pickN a n:Nat):=by
 rw[IntKind.wrap_u64,Int.tmod_eq_emod_of_nonneg (Int.emod_nonneg _ (by omega))]
 have h1:0≤a % 18446744073709551616 % (n:Int):=Int.emod_nonneg _ (by omega)
 have h2:a % 18446744073709551616 % (n:Int)<n:=Int.emod_lt_of_pos _ (by omega)
 unfold pickN;rw[Int.toNat_of_nonneg h1]
 generalize a % 18446744073709551616 % (n:Int)=x at *;unfold wrap64
 omega
theorem pick_any (a:Int) (n:Nat) (w:World) (h0:0<n) (hn:n≤1000000) :
  Calls Tryz.prog 11 #[.int .i64 a,.int .i64 n] w fun e w'=>e = .returned (.int .i64 (pickN a n:Nat))∧w=w':=by
 have HP:=Lib.hid (pick_eq (a:=a) h0 hn)
 go_enter Tryz.func11,Tryz.ntmps11
 go_wp2
 go_ret;exact⟨by rw[←HP.out];rfl,rfl⟩
theorem recsT:SliceT Tryz.prog 33 37 6 64:=
 ⟨Tryz.underlying33,by
  have h:(Tryz.prog.info? 37).map (fun i=>(i.zero,i.size,i.bytes))=some (some (.agg #[.int .i64 0,.int .i64 0,.bool false,.string ⟨#[]⟩,.bool false,.string ⟨#[]⟩]),6,64):=by kernel_rfl
  obtain⟨i,hi,hz,h1,h2⟩:=info_parts h
  exact⟨i,_,hi,hz,rfl,h1,h2⟩⟩
def numbered (base:Int):List Rec→List Rec
 | []=>[]
 | r::rs=>{ r with off:=base }::numbered (base+1) rs
theorem Rec.cells_one (r:Rec):∀ u∈r.cells,u.oneCell'=true:=by
 intro u hu;simp only[Rec.cells,List.mem_cons,List.not_mem_nil,or_false] at hu
 rcases hu with rfl | rfl | rfl | rfl | rfl | rfl<;>rfl
def OwnR (e:TypeId) (w:World) (v:Value) (rs:List Rec):Prop:=w.ownsRow 0 e 6 v rs.length (rs.flatMap Rec.cells)
theorem OwnR.nil (e:TypeId) (w:World):OwnR e w (.slice none 0 0) []:=World.ownsRow_nil w 0 e 6
theorem numbered_length (base:Int) (rs:List Rec):(numbered base rs).length=rs.length:=by
 induction rs generalizing base with
 | nil=>rfl
 | cons r rs ih=>simp[numbered,ih]
theorem numbered_snoc (base:Int) (rs:List Rec) (r:Rec):numbered base (rs++[r])=numbered base rs++[{ r with off:=base+rs.length }]:=by
 induction rs generalizing base with
 | nil=>simp[numbered]
 | cons x rs ih=>
  simp only[List.cons_append,numbered,ih,List.length_cons]
  congr 3
  simp
  omega
abbrev St:=List UInt8×Bool
def numS (s:St):Nat×St:=((get s.1).1,(s.1.drop (get s.1).2,s.2||(get s.1).2==0))
def textSt (s:St):List UInt8×St:=(textS s.1,(textRest s.1,textBad s.1 s.2))
def keyOf (f:Nat) (s:St):List UInt8×St:=if f % 2=1 then textSt s else ([],s)
def valOfS (f:Nat) (s:St):List UInt8×St:=if f / 2 % 2=1 then ([],s) else textSt s
def flagS (f:Nat) (s:St):St:=(s.1,s.2||decide (3<f))
def mkRec (base:Int) (o t f:Nat) (k v:List UInt8):Rec:={ off:=base+o,time:=t,keyed:=decide (f % 2=1),key:=⟨k.toArray⟩,gone:=decide (f / 2 % 2=1),value:=⟨v.toArray⟩ }
def decRec (base:Int) (s:St):Rec×St:=
 let a:=numS s
 let b:=numS a.2
 let f:=numS b.2
 let k:=keyOf f.1 (flagS f.1 f.2)
 let v:=valOfS f.1 k.2
 (mkRec base a.1 b.1 f.1 k.1 v.1,v.2)
def decRecs (base:Int):Nat→St→List Rec→List Rec×St
 | 0,s,acc=>(acc,s)
 | n+1,s,acc=>if s.2=true then (acc,s) else decRecs base n (decRec base s).2 (acc++[(decRec base s).1])
theorem decRecs_bad {base:Int}{n:Nat}{s:St}{acc:List Rec}(h:s.2=true):decRecs base n s acc=(acc,s):=by
 cases n with
 | zero=>rfl
 | succ n=>rw[decRecs,if_pos h]
theorem decRecs_on {base:Int}{n:Nat}{s:St}{acc:List Rec}(h:s.2=false):decRecs base (n+1) s acc=decRecs base n (decRec base s).2 (acc++[(decRec base s).1]):=by
 rw[decRecs,if_neg (by rw[h];simp)]
structure Parsed where
 base:Nat
 len:Nat
 recs:List Rec
 st:St
def parse (l:List UInt8):Parsed:=
 let b:=numS (l,false)
 let e:=numS b.2
 let n:=numS e.2
 let r:=decRecs b.1 n.1 n.2 []
 { base:=b.1,len:=e.1,recs:=r.1,st:=r.2 }
def Parsed.good (p:Parsed):Bool:=!p.st.2&&p.st.1.isEmpty&&decide (checkB p.base ((p.base:Int)+p.len) p.recs=0)
def decErr (l:List UInt8):Nat:=
 if l.length<8 then 12 else if fromB l<11∨6000<fromB l then 3 else if l.length<fromB l then 12
 else if sumOf ((l.take (fromB l)).drop 8)≠fromB (l.drop 4) then 3
 else if (parse ((l.take (fromB l)).drop 8)).good=true then 0 else 3
theorem numS_le (s:St):(numS s).1≤1099511627776:=get_le s.1
theorem numS_len (s:St):(numS s).2.1.length≤s.1.length:=by
 unfold numS;rw[List.length_drop];omega
theorem cells_get (rs:List Rec):∀ (i:Nat)(hi:i<rs.length) (j:Nat) (u:Value),rs[i].cells[j]? = some u→(rs.flatMap Rec.cells)[i*6+j]? = some u:=by
 induction rs with
 | nil=>intro i hi;simp at hi
 | cons r rs ih=>
  intro i hi j u hj;rw[List.flatMap_cons];cases i with
  | zero=>
   have hj6:j<r.cells.length:=by
    have h:r.cells[j]? = some u:=hj
    exact (List.getElem?_eq_some_iff.1 h).1
   rw[Nat.zero_mul,Nat.zero_add,List.getElem?_append_left hj6]
   exact hj
  | succ i=>
   have h6:r.cells.length=6:=rfl
   rw[List.getElem?_append_right (by omega),show (i+1)*6+j-r.cells.length=i*6+j by omega]
   exact ih i (by simpa using hi) j u hj
theorem OwnR.recs {e:TypeId}{w:World}{v:Value}{rs:List Rec}(h:OwnR e w v rs):∃ a cap,v = .slice a rs.length cap∧RecsAt w a rs∧rs.length≤cap:=by
 rcases h.2 with ⟨rfl,hn⟩ | ⟨g,cap,cur,rfl,_,_,hle,_⟩
 ·refine⟨none,0,by rw[hn],fun i hi=>by omega,by omega⟩
 ·refine⟨some ⟨g,0,none⟩,cap,rfl,fun i hi=>⟨g,0,rfl,fun j u hj=>?_⟩,hle⟩
  have:=World.ownsRow.cells h (g:=g) rfl (i*6+j) u (cells_get rs i hi j u hj)
  have e1:(⟨g,0,none⟩:Addr).add (i*6+j)=⟨g,i*6+j,none⟩:=by unfold Addr.add;split<;>simp_all
  rw[e1] at this;rw[Nat.zero_add];exact this
theorem textSt_le (s:St):(textSt s).1.length≤s.1.length∧(textSt s).2.1.length≤s.1.length:=by
 unfold textSt textS textRest;simp only[List.length_take,List.length_drop]
 omega
theorem keyOf_le (f:Nat) (s:St):(keyOf f s).1.length≤s.1.length∧(keyOf f s).2.1.length≤s.1.length:=by
 unfold keyOf;by_cases h:f % 2=1
 ·rw[if_pos h];exact textSt_le s
 ·rw[if_neg h];exact⟨Nat.zero_le _,Nat.le_refl _⟩
theorem valOfS_le (f:Nat) (s:St):(valOfS f s).1.length≤s.1.length∧(valOfS f s).2.1.length≤s.1.length:=by
 unfold valOfS;by_cases h:f / 2 % 2=1
 ·rw[if_pos h];exact⟨Nat.zero_le _,Nat.le_refl _⟩
 ·rw[if_neg h];exact textSt_le s
theorem decRec_ok {base:Int}{s:St}(h0:0≤base)(h1:base≤1099511627776)(hs:s.1.length≤maxLen):(decRec base s).1.Ok∧(decRec base s).2.1.length≤s.1.length:=by
 have a1:=numS_le s
 have a2:=numS_len s
 have b1:=numS_le (numS s).2
 have b2:=numS_len (numS s).2
 have c2:=numS_len (numS (numS s).2).2
 have k:=keyOf_le (numS (numS (numS s).2).2).1 (flagS (numS (numS (numS s).2).2).1 (numS (numS (numS s).2).2).2)
 have v:=valOfS_le (numS (numS (numS s).2).2).1 (keyOf (numS (numS (numS s).2).2).1 (flagS (numS (numS (numS s).2).2).1 (numS (numS (numS s).2).2).2)).2
 have hf:(flagS (numS (numS (numS s).2).2).1 (numS (numS (numS s).2).2).2).1=(numS (numS (numS s).2).2).2.1:=rfl
 rw[hf] at k;have hsz:∀ l:List UInt8,(⟨l.toArray⟩:ByteArray).size=l.length:=fun l=>List.size_toArray
 refine⟨⟨?_,?_,?_,?_⟩,?_⟩
 ·unfold decRec mkRec;simp only;omega
 ·unfold decRec mkRec;simp only;omega
 ·unfold decRec mkRec;simp only[hsz];omega
 ·unfold decRec mkRec;simp only[hsz];omega
 ·unfold decRec;simp only;omega
theorem decRecs_ok {base:Int}(h0:0≤base)(h1:base≤1099511627776):∀ {n:Nat}{s:St}{acc:List Rec},s.1.length≤maxLen→(∀ r∈acc,r.Ok)→∀ r∈(decRecs base n s acc).1,r.Ok
 | 0,s,acc,_,h=>h
 | n+1,s,acc,hs,h=>by
  by_cases hb:s.2=true
  ·rw[decRecs_bad hb];exact h
  ·rw[decRecs_on (by simpa using hb)]
   obtain⟨k1,k2⟩:=decRec_ok h0 h1 hs
   refine decRecs_ok h0 h1 (by omega) ?_
   intro r hr;rcases List.mem_append.1 hr with hr | hr
   ·exact h r hr
   ·rw[List.mem_singleton.1 hr];exact k1
theorem and_nat (a b:Nat)(ha:a<4611686018427387904)(hb:b<4611686018427387904):bits .and .i64 (a:Int) (b:Int)=((a &&& b:Nat):Int):=by
 have hand:a &&& b<2 ^ 62:=Nat.and_lt_two_pow a (by omega)
 show IntKind.i64.wrap ((BitVec.ofInt 64 (a:Int) &&& BitVec.ofInt 64 (b:Int)).toNat:Nat)=_
 rw[BitVec.toNat_and,BitVec.ofInt_natCast,BitVec.ofInt_natCast,BitVec.toNat_ofNat,BitVec.toNat_ofNat,Nat.mod_eq_of_lt (by omega),Nat.mod_eq_of_lt (by omega)]
 generalize a &&& b=x at *;rw[IntKind.wrap_i64];omega
theorem flag1 (f:Nat)(h:f≤1099511627776):(bits .and .i64 (f:Int) 1 != 0)=decide (f % 2=1):=by
 have e:bits .and .i64 (f:Int) 1=((f % 2:Nat):Int):=by
  have:=and_nat f 1 (by omega) (by omega)
  rw[nat_mask1] at this;exact this
 rw[e];have:f % 2=0∨f % 2=1:=by omega
 rcases this with h | h<;>rw[h]<;>decide
theorem flag2 (f:Nat)(h:f≤1099511627776):(bits .and .i64 (f:Int) 2 != 0)=decide (f / 2 % 2=1):=by
 have e:bits .and .i64 (f:Int) 2=((f / 2 % 2*2:Nat):Int):=by
  have:=and_nat f 2 (by omega) (by omega)
  rw[show (2:Nat)=2 ^ 1 from rfl,nat_bit] at this
  exact this
 rw[e];have:f / 2 % 2=0∨f / 2 % 2=1:=by omega
 rcases this with h | h<;>rw[h]<;>decide
end Go.Proofs.YtdjmifaidgbbaaaGreatDoor
