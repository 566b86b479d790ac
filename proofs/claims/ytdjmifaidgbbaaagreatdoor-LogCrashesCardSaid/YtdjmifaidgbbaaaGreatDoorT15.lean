/-
  A batch's bytes are read again; no beginning of them is a batch; a byte that turned is seen. Plain Lean.
-/
import Derived.Test.YtdjmifaidgbbaaaGreatDoorT14
import Derived.Lib.SlBytesConst
set_option linter.unusedVariables false
set_option linter.unusedSimpArgs false
set_option maxHeartbeats 0
set_option maxRecDepth 200000
namespace Go.Proofs.YtdjmifaidgbbaaaGreatDoor
open Go.RowKit
theorem numS_put (n:Nat) (more:List UInt8) (b:Bool)(h:n≤1099511627776):numS (put n++more,b)=(n,(more,b)):=by
 have hp:=put_length_pos n
 have e:((put n).length==0)=false:=by simp[put_ne]
 unfold numS;simp only[get_of_put n more h,e,Bool.or_false,List.drop_left]
theorem textSt_put (s:ByteArray) (more:List UInt8) (b:Bool)(h:s.size≤1099511627776):textSt (putText s++more,b)=(s.data.toList,(more,b)):=by
 have hl:s.data.toList.length=s.size:=by rw[Array.length_toList];rfl
 have e:((put s.size).length==0)=false:=by simp[put_ne]
 have e1:putText s++more=put s.size++(s.data.toList++more):=by unfold putText;rw[List.append_assoc]
 have e2:=get_of_put s.size (s.data.toList++more) h
 have e3:¬(s.data.toList++more).length<s.size:=by rw[List.length_append];omega
 unfold textSt textS textRest textBad textN;simp only[e1,e2,List.drop_left,if_neg e3,e,Bool.or_false,decide_eq_false e3]
 rw[List.take_left' hl,List.drop_left' hl]
theorem flags_le (r:Rec):r.flags≤3:=by unfold Rec.flags;split<;>split<;>omega
theorem flags_key (r:Rec):r.flags % 2=1↔r.keyed=true:=by unfold Rec.flags;cases r.keyed<;>cases r.gone<;>simp
theorem flags_gone (r:Rec):r.flags / 2 % 2=1↔r.gone=true:=by unfold Rec.flags;cases r.keyed<;>cases r.gone<;>simp
theorem decRec_enc {base en:Int}{r:Rec}(h:r.Fits base en)(h0:0≤base)(he:en≤1099511627776) (more:List UInt8) :
  decRec base (encRec base r++more,false)=(r,(more,false)):=by
 obtain⟨h1,h2,h3,h4,h5,h6,h7,h8⟩:=h
 have hf:=flags_le r
 have e1:encRec base r++more=put (r.off-base).toNat++(put r.time.toNat++(put r.flags++((if r.keyed=true then putText r.key else [])++((if r.gone=true then [] else putText r.value)++more)))):=by
  unfold encRec;simp only[List.append_assoc]
 have ek:∀ m,keyOf r.flags ((if r.keyed=true then putText r.key else [])++m,false)=(r.key.data.toList,(m,false)):=by
  intro m;unfold keyOf;by_cases hk:r.keyed=true
  ·rw[if_pos ((flags_key r).2 hk),if_pos hk,textSt_put _ _ _ (by omega)]
  ·rw[if_neg (fun h=>hk ((flags_key r).1 h)),if_neg hk]
   have:r.key.data.toList=[]:=by have:=h7 (by simpa using hk);rw[ByteArray.toList_eq] at this;exact this
   rw[this];rfl
 have ev:∀ m,valOfS r.flags ((if r.gone=true then [] else putText r.value)++m,false)=(r.value.data.toList,(m,false)):=by
  intro m;unfold valOfS;by_cases hk:r.gone=true
  ·rw[if_pos ((flags_gone r).2 hk),if_pos hk]
   have:r.value.data.toList=[]:=by have:=h8 hk;rw[ByteArray.toList_eq] at this;exact this
   rw[this];rfl
  ·rw[if_neg (fun h=>hk ((flags_gone r).1 h)),if_neg hk,textSt_put _ _ _ (by omega)]
 have eg:∀ m:List UInt8,flagS r.flags (m,false)=(m,false):=by
  intro m;unfold flagS;simp;omega
 unfold decRec;rw[e1];simp only[numS_put _ _ _ (show (r.off-base).toNat≤1099511627776 by omega),numS_put _ _ _ (show r.time.toNat≤1099511627776 by omega),numS_put _ _ _ (show r.flags≤1099511627776 by omega),eg,ek,ev]
 congr 1
 unfold mkRec;obtain⟨ro,rt,rk,rkey,rg,rv⟩:=r
 simp only[Rec.mk.injEq]
 refine⟨by simp only at h1;omega,by simp only at h3;omega,?_,?_⟩
 ·have:=flags_key ⟨ro,rt,rk,rkey,rg,rv⟩
  simp only at this
  cases rk<;>simp_all
 ·have:=flags_gone ⟨ro,rt,rk,rkey,rg,rv⟩
  simp only at this
  cases rg<;>simp_all
theorem decRecs_enc {base en:Int}(h0:0≤base)(he:en≤1099511627776) (more:List UInt8):∀ (rs acc:List Rec),(∀ r∈rs,r.Fits base en)→
  decRecs base rs.length (encRecs base rs++more,false) acc=(acc++rs,(more,false))
 | [],acc,_=>by simp[decRecs,encRecs]
 | r::rs,acc,h=>by
  rw[List.length_cons,decRecs_on rfl,encRecs,List.append_assoc,decRec_enc (h r (by simp)) h0 he,decRecs_enc h0 he more rs _ (fun x hx=>h x (by simp[hx]))]
  simp
theorem parse_enc {base en:Int}{rs:List Rec}(h:checkB base en rs=0):parse (encBody base en rs)=⟨base.toNat,(en-base).toNat,rs,([],false)⟩:=by
 obtain⟨h0,h1,h2,h3,h4,h5⟩:=checkB_zero h
 have e1:encBody base en rs=put base.toNat++(put (en-base).toNat++(put rs.length++(encRecs base rs++[]))):=by
  unfold encBody encHead;simp only[List.append_assoc,List.append_nil]
 unfold parse;rw[e1];have eb:((base.toNat:Nat):Int)=base:=by omega
 simp only[numS_put _ _ _ (show base.toNat≤1099511627776 by omega),numS_put _ _ _ (show (en-base).toNat≤1099511627776 by omega),numS_put _ _ _ (show rs.length≤1099511627776 by omega),eb,
  decRecs_enc h0 h1 [] rs [] h5,List.nil_append]
theorem xor_left_inj {a b c:Nat}(h:a ^^^ b=a ^^^ c):b=c:=by
 have:a ^^^ (a ^^^ b)=a ^^^ (a ^^^ c):=by rw[h]
 rwa [←Nat.xor_assoc,←Nat.xor_assoc,Nat.xor_self,Nat.zero_xor,Nat.zero_xor] at this
theorem fromB_four (n:Nat) (more:List UInt8)(h:n<4294967296):fromB (four n++more)=n:=by
 unfold fromB four fourAt;simp only[fromTo,List.cons_append,List.nil_append,List.getD_cons_zero,List.getD_cons_succ,UInt8.toNat_ofNat']
 omega
theorem fromB_eq (l:List UInt8):fromB l=(((l.getD 0 0).toNat*256+(l.getD 1 0).toNat)*256+(l.getD 2 0).toNat)*256+(l.getD 3 0).toNat:=by
 unfold fromB;simp only[fromTo,Nat.zero_mul,Nat.zero_add]
theorem encErr_checked {base en:Int}{rs:List Rec}(h:checkB base en rs≠0):encErr base en rs=checkB base en rs:=by unfold encErr;rw[if_pos h]
theorem encode_any (base en:Int) (a:Option Addr) (rs:List Rec) (cap:Nat) (w:World)(hb:-9223372036854775808≤base∧base≤9223372036854775807)(he:-9223372036854775808≤en∧en≤9223372036854775807)(hl:rs.length≤maxLen)(hok:∀ r∈rs,Rec.Ok r)(hc:RecsAt w a rs) :
  Calls Tryz.prog 58 #[.agg #[.int .i64 base,.int .i64 en,.slice a rs.length cap]] w (EncPost w base en rs):=by
 by_cases h0:checkB base en rs=0
 ·exact encode_ok base en a rs cap w hb he hl hok hc h0
 ·refine (encode_bad base en a rs cap w hb he hl hok hc h0).mono ?_
  rintro e w' ⟨he,hch⟩
  refine⟨hch,.inl ⟨?_,?_⟩⟩
  ·rw[encErr_checked h0];exact h0
  ·rw[encErr_checked h0];exact he
theorem decode_any (a:Option Addr) (l:List UInt8) (cap:Nat) (w:World)(hcap:l.length≤cap)(hl:cap≤maxLen)(hb:BytesAt w a l) :
  Calls Tryz.prog 90 #[.slice a l.length cap] w (DecPost w l):=by
 by_cases h8:l.length<8
 ·exact decode_short a l cap w h8
 ·by_cases hs:fromB l<11∨6000<fromB l∨l.length<fromB l
  ·exact decode_size a l cap w h8 (Nat.le_trans hcap hl) hb hs
  ·exact decode_long a l cap w hcap hl hb hs
theorem decErr_enc {base en:Int}{rs:List Rec}(h:encErr base en rs=0):decErr (encAll base en rs)=0∧(encAll base en rs).length=8+(encBody base en rs).length∧fromB (encAll base en rs)=8+(encBody base en rs).length∧
  parse (((encAll base en rs).take (fromB (encAll base en rs))).drop 8)=⟨base.toNat,(en-base).toNat,rs,([],false)⟩:=by
 have hc:checkB base en rs=0:=by
  unfold encErr at h;by_cases hc:checkB base en rs=0
  ·exact hc
  ·rw[if_pos hc] at h;exact absurd h hc
 have h6:8+(encBody base en rs).length≤6000:=by
  unfold encErr at h;rw[if_neg (by simpa using hc)] at h
  by_cases h6:6000<8+(encBody base en rs).length
  ·rw[if_pos h6] at h;cases h
  ·omega
 have h3:3≤(encBody base en rs).length:=by
  unfold encBody encHead;have a1:=put_length_pos base.toNat
  have a2:=put_length_pos (en-base).toNat
  have a3:=put_length_pos rs.length
  simp only[List.length_append]
  omega
 have hlen:(encAll base en rs).length=8+(encBody base en rs).length:=by unfold encAll;simp[four];omega
 have hf:fromB (encAll base en rs)=8+(encBody base en rs).length:=by
  unfold encAll;rw[List.append_assoc];exact fromB_four _ _ (by omega)
 have hs:fromB ((encAll base en rs).drop 4)=sumOf (encBody base en rs):=by
  unfold encAll;rw[List.append_assoc,List.drop_left' (by simp[four])]
  exact fromB_four _ _ (sumOf_lt _)
 have hb:(encAll base en rs).drop 8=encBody base en rs:=by
  unfold encAll;exact List.drop_left' (by simp[four])
 have ht:(encAll base en rs).take (fromB (encAll base en rs))=encAll base en rs:=List.take_of_length_le (by omega)
 obtain⟨c0,c1,c2,_⟩:=checkB_zero hc
 refine⟨?_,hlen,hf,by rw[ht,hb,parse_enc hc]⟩
 unfold decErr;rw[ht,hb,hs,if_neg (by omega),if_neg (by omega),if_neg (by omega),if_neg (by simp),parse_enc hc,if_pos]
 have e1:((base.toNat:Nat):Int)=base:=by omega
 have e2:(((en-base).toNat:Nat):Int)=en-base:=by omega
 simp only[Parsed.good,e1,e2,Bool.not_false,List.isEmpty_nil,Bool.true_and,decide_eq_true_eq]
 rw[show base+(en-base)=en by omega]
 exact hc
open Go.Maps
theorem RecsAt.chg' {S:Nat→Prop}{w w':World}{a:Option Addr}{rs:List Rec}(h:RecsAt w a rs)(hc:Chg S w w')(hn:rs≠[]→∀ x,a=some x→¬S x.block):RecsAt w' a rs:=by
 by_cases h0:rs=[]
 ·subst h0;exact fun i hi=>absurd hi (by simp)
 ·exact h.chg hc (hn h0)
def addSg (d:Dk) (g:Sg) (base en:Int) (rs:List Rec):Nat×Dk×Sg:=
 if encErr base en rs≠0 then (encErr base en rs,d,g) else
  if base<g.next then (10,d,g) else
   if (d.add g.name (encAll base en rs)).1=0 then (0,(d.add g.name (encAll base en rs)).2,g.noted base en rs (encAll base en rs).length)
   else ((d.add g.name (encAll base en rs)).1,(d.add g.name (encAll base en rs)).2,g)
theorem errD_ne {k:Nat}(h:k≠0):errD k = .iface 65 (.int .i64 (k:Nat)):=if_neg h
theorem sadd_any {B:Nat→Prop} {w:World} {p s:Nat} {S:Nat→Prop} {v:Value} {d:Dk} {g:Sg} (h:SgS B w p s S v d g) (hg:g.name.length≤1000) (hpl:g.pls.length≤100000) (hgs:g.size≤1000000000)
  (base en:Int) (ra:Option Addr) (rs:List Rec) (rc:Nat) (hb:-9223372036854775808≤base∧base≤9223372036854775807) (he:-9223372036854775808≤en∧en≤9223372036854775807) (hrl:rs.length≤1000000) (hok:∀ r∈rs,Rec.Ok r) (hc:RecsAt w ra rs)
  (hra:rs≠[]→∀ x,ra=some x→¬S x.block) (hel:encErr base en rs=0→(encAll base en rs).length≤6000) :
  Calls Tryz.prog 62 #[.pointer (some ⟨s,0,none⟩),.agg #[.int .i64 base,.int .i64 en,.slice ra rs.length rc]] w fun e w'=>
   e = .returned (errD (addSg d g base en rs).1)∧(∃ S' v',SgS B w' p s S' v' (addSg d g base en rs).2.1 (addSg d g base en rs).2.2)∧Chg (Off B) w w':=by
 obtain⟨A,hA⟩:∃ A,addSg d g base en rs=A:=⟨_,rfl⟩
 rw[hA];unfold addSg at hA;have HA:=Lib.hid hA
 have hbx:=Box.new w [.int .i64 base,.int .i64 en,.slice ra rs.length rc] 112
 have hal:=(Chg.refl Nil w).alloc (.cells #[.int .i64 base,.int .i64 en,.slice ra rs.length rc] 112)
 have HS1:=Lib.hid (h.nil hal)
 have HR1:=Lib.hid (RecsAt.chg hal hc (fun _ _ h=>h))
 have HSL:=Lib.hid h.sl
 have HEN:=Lib.hid (fun (w':World) (hw:Chg Nil w w')=>encode_any base en ra rs rc w' hb he (by unfold maxLen;omega) hok (RecsAt.chg hw hc (fun _ _ h=>h)))
 have HEL:=Lib.hid hel
 have HG:=Lib.hid hg
 have HPL:=Lib.hid hpl
 have HGS:=Lib.hid hgs
 have HRA:=Lib.hid hra
 clear hA h hb he hok hc hel hg hpl hgs hra;go_enter Tryz.func62,Tryz.ntmps62
 go_upto_region 1 with fail;have hbx:Box (w.alloc (.cells #[.int .i64 base,.int .i64 en,.slice ra rs.length rc] 112)) w.heap.size [.int .i64 base,.int .i64 en,.slice ra rs.length rc] 112:=hbx
 generalize w.alloc (.cells #[.int .i64 base,.int .i64 en,.slice ra rs.length rc] 112)=w1 at *;obtain⟨gx,hgx⟩:∃ gx,w.heap.size=gx:=⟨_,rfl⟩
 have HGX:=Lib.hid hgx
 rw[hgx] at hbx;rw[hgx];have HBX:=Lib.hid hbx
 have HAL:=Lib.hid hal
 have x0:=hbx.cell (j:=0) rfl
 have x1:=hbx.cell (j:=1) rfl
 have x2:=hbx.cell (j:=2) rfl
 clear hgx hbx hal;go_wp2_with fail;refine (HEN.out w1 HAL.out).mono ?_
 rintro e w2 ⟨hc2,hpost⟩
 have HC2:=Lib.hid hc2
 have HS2:=Lib.hid (HS1.out.nil hc2)
 clear x1 x2;rcases hpost with ⟨hne,rfl⟩ | ⟨h0,v1,rfl,hown,hnew⟩
 ·have HA2:=Lib.hid (HA.out.symm.trans (if_pos hne))
  obtain⟨k,hk⟩:∃ k,encErr base en rs=k:=⟨_,rfl⟩
  rw[hk] at hne HA2
  have hev:errV 65 (encErr base en rs) = .iface 65 (.int .i64 (k:Nat)):=by rw[hk];exact if_neg hne
  have HNE:=Lib.hid hne
  rw[hev];clear hev hk hne hc2;go_wp2_with fail;go_ret;rw[HA2.out];exact⟨congrArg Ending.returned (errD_ne HNE.out).symm,⟨_,_,HS2.out⟩,(HAL.out.trans HC2.out (fun _ h=>h.elim)).weak (fun _ h=>h.elim)⟩
 ·have hln:=HEL.out h0
  have HA2:=Lib.hid (HA.out.symm.trans (if_neg (fun h=>h h0)))
  obtain⟨l,hl⟩:∃ l,encAll base en rs=l:=⟨_,rfl⟩
  rw[hl] at hln hown HA2
  have HLN:=Lib.hid hln
  have HOW:=Lib.hid hown
  have HNW:=Lib.hid hnew
  obtain⟨a1,c1,hv1,_,_,hob⟩:=hown.val
  subst hv1;have HOB:=Lib.hid hob
  have HNX:=Lib.hid (fun (w':World) (hw:Chg Nil w2 w')=>snext_any (HS2.out.nil hw).m (by have:=HPL.out;omega))
  have x0:=hc2.cell x0 (fun h=>h)
  clear hln hl hown hnew hob hc2 h0;go_upto_region 4 with fail;refine wp_region_mono _ (Chg Nil) (by kernel_rfl) (fun _ _ _ h k=>h.trans k (fun _ h=>h.elim)) [[],[0],[],[2],[1,3]] rfl (by kernel_rfl) (Chg.refl _ _).drew ?_
  ((with_reducible apply Walk.eq);case h=>(intro w2 hw2 N hN;simp only[depM];go_simp;(try go_bits);with_reducible exact hN _ (Chg.refl _ _)))
  ((with_reducible apply Walk.eq);case h=>(intro w6 hw6 N hN;have hq:=hw6.cell x0 (fun h=>h);simp only[depM];go_simp;with_reducible exact hN _ (Chg.refl _ _)))
  ((with_reducible apply Walk.eq);case h=>(intro w2 hw2 N hN;simp only[depM];go_simp;(try go_bits);with_reducible exact hN _ (Chg.refl _ _)))
  (with_reducible apply Walk.eq);case h=>
   intro w6 hw6 N hN;simp only[depM]
   go_simp;refine (HNX.out w6 hw6).mono ?_
   rintro e w7 ⟨rfl,hc7⟩
   exact⟨_,rfl,hN _ hc7⟩
  ((with_reducible apply Walk.eq);case h=>(intro w2 hw2 N hN;simp only[depM];go_simp;(try go_bits);with_reducible exact hN _ (Chg.refl _ _)))
  intro w3 hw3;simp only[List.nil_append,List.cons_append,Fin]
  have HW3:=Lib.hid hw3
  have HS3:=Lib.hid (HS2.out.nil hw3)
  have x0:=hw3.cell x0 (fun h=>h)
  clear hw3;by_cases hlt:base<g.next
  ·have HA3:=Lib.hid (HA2.out.trans (if_pos hlt))
   go_simp;go_wp2_with fail;go_ret;rw[HA3.out];exact⟨rfl,⟨_,_,HS3.out⟩,((HAL.out.trans HC2.out (fun _ h=>h.elim)).trans HW3.out (fun _ h=>h.elim)).weak (fun _ h=>h.elim)⟩
  ·have HA3:=Lib.hid (HA2.out.trans (if_neg hlt))
   have c0:=HS3.out.m.c.cell (j:=0) rfl
   have c1':=HS3.out.m.c.cell (j:=1) rfl
   have hsz1:=HAL.out.size
   have hz12:=HC2.out.size
   have hz23:=HW3.out.size
   have HBN:Hid (l≠[]→∀ x,a1=some x→¬S x.block):=fun _ x hx hs=>by
    have h1:=HNW.out x.block (HOB.out x hx)
    have h2:=(HSL.out x.block hs).2
    omega
   have HBY:Hid (BytesAt w3 a1 l):=by
    obtain⟨a9,c9,e9,hb9,_⟩:=(HOW.out.chg HW3.out (fun _ _ h=>h)).val
    simp only[Value.slice.injEq] at e9
    obtain⟨rfl,_,rfl⟩:=e9
    exact hb9
   have HOP:=Lib.hid (fun (w':World) (h:SgS B w' p s S v d g) (hw:Chg S w3 w')=>add_any h.a ⟨g.name.toArray⟩ (by show g.name.toArray.size≤4611686018427387904;simp;have:=HG.out;omega) a1 l c1 (by have:=HLN.out;omega) (bytes_keep hw HBY.out HBN.out) HBN.out)
   obtain⟨R,hR⟩:∃ R,d.add g.name l=R:=⟨_,rfl⟩
   rw[hR] at HA3;have HR:=Lib.hid hR
   clear hR hsz1 hz12 hz23;go_upto_region 6 with fail;clear hlt;refine Ch.wp_region_chain _ (Chg (S)) [9] (SopF B p s S v d g R) (by kernel_rfl) (fun _=>Chg.refl _ _) (fun _ _ _ h k=>h.trans k (fun _ h=>.inl h)) [[],[0],[1],[2],[],[4],[5],[6],[],[3,7,8],[9]] rfl (by kernel_rfl) (by kernel_rfl) (Chg.refl _ _).drew ?_ ?_
   ·exact HS3.out.nil (Chg.refl Nil _).drew
   iterate 3 ((with_reducible apply Ch.Walk.eq);(case hd=>rfl);(case hi=>rfl);case h=>(intro w2 hw2 N hN;simp only[Ch.depB];go_simp;(try go_bits);with_reducible exact hN _ (Chg.refl _ _) (fun _ h=>h)))
   ((with_reducible apply Ch.Walk.eq);(case hd=>rfl);(case hi=>rfl);case h=>(intro w2 hw2 N hN;(have hq:=hw2.cell c0 (HS3.out.ap s (.inl rfl)));simp only[Ch.depB];go_simp;(try go_bits);with_reducible exact hN _ (Chg.refl _ _) (fun _ h=>h)))
   iterate 3 ((with_reducible apply Ch.Walk.eq);(case hd=>rfl);(case hi=>rfl);case h=>(intro w2 hw2 N hN;simp only[Ch.depB];go_simp;(try go_bits);with_reducible exact hN _ (Chg.refl _ _) (fun _ h=>h)))
   ((with_reducible apply Ch.Walk.eq);(case hd=>rfl);(case hi=>rfl);case h=>(intro w2 hw2 N hN;(have hq:=hw2.cell c1' (HS3.out.ap s (.inl rfl)));simp only[Ch.depB];go_simp;(try go_bits);with_reducible exact hN _ (Chg.refl _ _) (fun _ h=>h)))
   ((with_reducible apply Ch.Walk.eq);(case hd=>rfl);(case hi=>rfl);case h=>(intro w2 hw2 N hN;simp only[Ch.depB];go_simp;(try go_bits);with_reducible exact hN _ (Chg.refl _ _) (fun _ h=>h)))
   refine Ch.Walk.chainE 0 (c:=errD R.1) rfl rfl ?_ ?_
   ·intro w6 hw6 vs hvs hF N hN;obtain rfl:=List.eq_nil_of_length_eq_zero hvs
    have F3:SgS B w6 p s S v d g:=hF
    have HO6:=Lib.hid (HOP.out w6 F3 hw6)
    have HF3:=Lib.hid F3
    clear F3 hF;simp only[Ch.depB,Ch.depC,Nat.reduceBEq,Nat.reduceAdd]
    go_simp;refine HO6.out.mono ?_
    rintro e w7 ⟨rfl,h2,h3⟩
    have h2:DiskAt w7 p (Gr S w6 w7) (d.add g.name l).2:=h2
    have he:errD (d.add (ByteArray.mk g.name.toArray).data.toList l).1=errD R.1:=by show errD (d.add g.name l).1=_;rw[HR.out]
    rw[HR.out] at h2;rw[he];exact⟨_,rfl,hN _ h3 ⟨_,HF3.out.disk h2 h3⟩⟩
   ((with_reducible apply Ch.Walk.eq);(case hd=>rfl);(case hi=>rfl);case h=>(intro w2 hw2 N hN;simp only[Ch.depB];go_simp;(try go_bits);with_reducible exact hN _ (Chg.refl _ _) (fun _ h=>h)))
   intro w6 hw6;simp only[List.nil_append,List.cons_append,Ch.Fin,List.map_cons,List.map_nil,List.getD_cons_zero,List.getD_cons_succ]
   intro hF;have HF:=Lib.hid hF
   have HW6:=Lib.hid hw6
   have x0:=hw6.cell x0 (fun h=>by have h1:=(HSL.out _ h).2;have h2:=HGX.out;have h1:gx<w.heap.size:=h1;omega)
   clear hF hw6 c0 c1';have HFR:Hid (Chg (Off B) w w6):=(((HAL.out.trans HC2.out (fun _ h=>h.elim)).trans HW3.out (fun _ h=>h.elim)).weak (S':=Off B) (fun _ h=>h.elim)).trans HW6.out (fun k hk=>.inl (HSL.out k hk).1)
   by_cases hr:R.1=0
   ·have HA4:=Lib.hid (HA3.out.trans (if_pos hr))
    have hev:errD R.1 = .nilIface:=by rw[hr];rfl
    rw[hev];clear hev hr;obtain⟨S',h9⟩:=HF.out
    have hbx6:=((HBX.out.chg HC2.out (fun h=>h)).chg HW3.out (fun h=>h)).chg HW6.out (fun h=>by have h1:=(HSL.out _ h).2;have h2:=HGX.out;omega)
    have x0:=hbx6.cell (j:=0) rfl
    have x1:=hbx6.cell (j:=1) rfl
    have x2:=hbx6.cell (j:=2) rfl
    have hrs6:=RecsAt.chg' (RecsAt.chg HW3.out (RecsAt.chg HC2.out HR1.out (fun _ _ h=>h)) (fun _ _ h=>h)) HW6.out HRA.out
    have HNT:=Lib.hid (snote_any h9.m HPL.out base en ra rs rc hrs6 hrl l.length (by have:=HGS.out;have:=HLN.out;omega))
    have H9:=Lib.hid h9
    clear h9 hrs6 hbx6;go_simp;go_wp2_with fail;refine HNT.out.mono ?_
    rintro e w8 ⟨rfl,v',hm8,hc8,hn8⟩
    have H8:=Lib.hid (H9.out.seg hm8 hc8 hn8)
    have HF8:=Lib.hid (HFR.out.trans hc8 (fun k hk=>.inl (H9.out.ml k hk)))
    clear hm8 hc8 hn8 HNT x0 x1 x2;go_wp2_with fail;go_ret;rw[HA4.out];exact⟨rfl,⟨_,_,H8.out⟩,HF8.out⟩
   ·have HA4:=Lib.hid (HA3.out.trans (if_neg hr))
    have hev:errD R.1 = .iface 65 (.int .i64 (R.1:Nat)):=errD_ne hr
    rw[hev];have HRR:=Lib.hid hr
    clear hev hr;go_simp;go_wp2_with fail;go_ret;obtain⟨S',h9⟩:=HF.out
    rw[HA4.out];exact⟨congrArg Ending.returned (errD_ne HRR.out).symm,⟨S',_,h9⟩,HFR.out⟩
end Go.Proofs.YtdjmifaidgbbaaaGreatDoor
