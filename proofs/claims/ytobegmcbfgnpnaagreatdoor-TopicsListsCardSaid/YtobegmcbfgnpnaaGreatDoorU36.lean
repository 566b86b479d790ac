/-
  The walk of conveyorref.List. (Of the topics' seat; made by mktpq.py.)
-/
import Derived.Test.YtobegmcbfgnpnaaGreatDoorU35
set_option linter.unusedVariables false
set_option linter.unusedSimpArgs false
set_option maxHeartbeats 0
set_option maxRecDepth 200000
namespace Go.Proofs.YtobegmcbfgnpnaaGreatDoor
open Go.RowKit Go.Lib Go.Shelf
theorem made_big (s cs:ByteArray) (w:World) (hs:s.size≤1000000) :
  Calls Tryz.prog 60 #[.string s,.string cs] w fun e w'=>e = .returned (.bool (s.data.toList.all (cs.data.toList.contains ·)))∧w'=w:=by
 have hcon:∀ (c:Int),Calls Tryz.prog 112 #[.string cs,.int .u8 c] w fun e w'=>e = .returned (.int .i64 (Lib.indexByte cs.data.toList c.toNat.toUInt8))∧w'=w:=
  fun c=>Any.strings_IndexByte Tryz.lays137 cs c w
 have hsz:=list_size s
 go_enter Tryz.func60,Tryz.ntmps60
 go_wp2_with fail;go_loopw [8] (fun i wr=>∃ k:Nat,k≤s.size∧i = .int .i64 k∧wr=w∧(s.data.toList.take k).all (cs.data.toList.contains ·)=true) (fun i _=>s.size-(RowKit.intOf i).toNat)
 case atStart=>exact⟨0,Nat.zero_le _,rfl,rfl,rfl⟩
 case round=>
  obtain⟨k,hk,rfl,rfl,hall⟩:=hrel
  by_cases hlt:k<s.size
  ·have hget:s.data.toList[k]? = some s[k]:=by rw[Array.getElem?_toList];exact Array.getElem?_eq_getElem hlt
   have hsnoc:s.data.toList.take (k+1)=s.data.toList.take k++[s[k]]:=by
    rw[List.take_add_one,hget];rfl
   have hc:=hcon (s[k].toNat:Int)
   have hc8:((s[k].toNat:Int)).toNat.toUInt8=s[k]:=by
    apply UInt8.toNat_inj.1
    rw[Int.toNat_natCast];simp
   rw[hc8] at hc;have hneg:=indexByte_neg (l:=cs.data.toList) (c:=s[k])
   have hHC:=Lib.hid hc
   clear hc hcon;by_cases hin:cs.data.toList.contains s[k]=true
   ·have hni:¬Lib.indexByte cs.data.toList s[k]<0:=fun h=>by rw[hneg.1 h] at hin;cases hin
    clear hneg;go_wp2_with (go_at_call 112;refine hHC.out.mono ?_;rintro e w' ⟨rfl,rfl⟩)
    go_roundw
    case rel=>exact⟨k+1,by omega,by go_num,by simp,by rw[hsnoc,List.all_append,hall];simpa using hin⟩
    case measure=>simp[RowKit.intOf];omega
   ·have hni:Lib.indexByte cs.data.toList s[k]<0:=hneg.2 (by simpa using hin)
    clear hneg;go_wp2_with (go_at_call 112;refine hHC.out.mono ?_;rintro e w' ⟨rfl,rfl⟩)
    go_ret;refine⟨congrArg (fun b=>Ending.returned (Value.bool b)) ?_,rfl⟩
    have:s.data.toList.all (cs.data.toList.contains ·)=false:=by
     rw[List.all_eq_false];exact⟨s[k],List.mem_of_getElem? hget,hin⟩
    rw[this]
  ·have hkk:k=s.size:=by omega
   rw[List.take_of_length_le (by omega)] at hall
   clear hcon;go_wp2_with fail;go_ret;exact⟨congrArg (fun b=>Ending.returned (Value.bool b)) hall.symm,rfl⟩
theorem ref_topic_big (s:ByteArray) (w:World) (hs:s.size≤1000000) :
  Calls Tryz.prog 58 #[.string s] w fun e w'=>e = .returned (.bool (nameOk 10 cutTopic s.data.toList))∧w'=w:=by
 have hcon:=made_big s ⟨cutTopic.toArray⟩ w hs
 have hsz:=list_size s
 change Calls Tryz.prog _ _ _ (fun e w'=>e = .returned (.bool (s.data.toList.all (cutTopic.contains ·)))∧w'=w) at hcon
 generalize hr:s.data.toList.all (cutTopic.contains ·)=r at hcon;have HR:=Lib.hid hr
 clear hr;have HE:Hid (nameOk 10 cutTopic s.data.toList=(!s.data.toList.isEmpty&&decide (s.data.toList.length≤10)&&r)):=by unfold Hid nameOk;rw[HR.out]
 have he:s.data.toList.isEmpty=decide (s.size=0):=by
  rw[Bool.eq_iff_iff,List.isEmpty_iff,decide_eq_true_eq,←hsz,List.length_eq_zero_iff]
 have HI:=Lib.hid he
 clear he;by_cases h0:s.size=0
 ·have hz:¬(0:Int)<(s.size:Int):=by omega
  go_enter Tryz.func58,Tryz.ntmps58
  go_wp2_with fail;go_ret;exact⟨congrArg (fun b=>Ending.returned (Value.bool b)) (by rw[HE.out,HI.out,decide_eq_true h0];rfl),rfl⟩
 ·have hz:(0:Int)<(s.size:Int):=by omega
  by_cases h1:s.size≤10
  ·have hz1:(s.size:Int)≤10:=by omega
   go_enter Tryz.func58,Tryz.ntmps58
   go_wp2_with (go_at_call 60;refine hcon.mono ?_;rintro e w' ⟨rfl,rfl⟩)
   go_ret;exact⟨congrArg (fun b=>Ending.returned (Value.bool b)) (by rw[HE.out,HI.out,decide_eq_false h0,decide_eq_true (show s.data.toList.length≤10 by omega)];cases r<;>rfl),rfl⟩
  ·have hz1:¬(s.size:Int)≤10:=by omega
   go_enter Tryz.func58,Tryz.ntmps58
   go_wp2_with fail;go_ret;exact⟨congrArg (fun b=>Ending.returned (Value.bool b)) (by rw[HE.out,HI.out,decide_eq_false h0,decide_eq_false (show ¬s.data.toList.length≤10 by omega)];rfl),rfl⟩
theorem atoi_pos {l:List UInt8}{v:Int}(h:atoiAll l = .ok v)(hd:l.all (digitsC.contains ·)=true):0≤v:=by
 unfold atoiAll at h;cases l with
 | nil=>cases h
 | cons c r=>
  have hc:¬c.toNat=45:=fun e=>by
   rw[List.all_cons,Bool.and_eq_true] at hd;have h1:=hd.1
   have h2:c=45:=UInt8.toNat_inj.1 e
   rw[h2] at h1;exact absurd h1 (by decide)
  simp only at h
  split at h
  ·cases h
  ·cases h
  ·split at h
   ·cases h
   ·split at h
    ·cases h
    ·have:=NumEnd.ok.inj h
     omega
theorem numT_pos {x:List UInt8}{v:Int}(h:numT x=some v):0≤v:=by
 unfold numT at h;split at h
 ·next u hu=>
  split at h
  ·next hd=>obtain rfl:=Option.some.inj h;exact atoi_pos hu hd
  ·cases h
 ·cases h
def Tp.top (t:Tp):List Value:=[.string ⟨t.name.toArray⟩,.int .i64 (t.starts.length:Nat),.bool t.comp]
def OwnTp (w:World) (v:Value) (ts:List Tp):Prop:=w.ownsRow 0 41 3 v ts.length (ts.flatMap Tp.top)
theorem topT:SliceT Tryz.prog 30 41 3 32:=
 ⟨Tryz.underlying30,by
  have h:(Tryz.prog.info? 41).map (fun i=>(i.zero,i.size,i.bytes))=some (some (.agg #[.string ⟨#[]⟩,.int .i64 0,.bool false]),3,32):=by kernel_rfl
  obtain⟨i,hi,hz,h1,h2⟩:=info_parts h
  exact⟨i,_,hi,hz,rfl,h1,h2⟩⟩
theorem _root_.List.take_take_append_drop {α:Type}{l:List α}{i n:Nat}(h:i<n):l.take i++(l.take n).drop i=l.take n:=by
 have h1:=List.take_append_drop i (l.take n)
 rw[List.take_take,Nat.min_eq_left (by omega)] at h1
 exact h1
theorem Tp.top_one (t:Tp):∀ u∈t.top,u.oneCell'=true:=by
 intro u hu;unfold Tp.top at hu;simp only[List.mem_cons,List.not_mem_nil,or_false] at hu
 rcases hu with rfl | rfl | rfl<;>rfl
def NewT (n0:Nat) (cs:List Value) (t:TypeId) (v:Value) (w:World):Prop:=∃ q,v = .slice (some ⟨q,0,none⟩) 1 1∧n0≤q∧Box w q cs t
theorem NewT.keep {n0:Nat}{cs:List Value}{t:TypeId}{v:Value}{w w':World}{T:Nat→Prop}(h:NewT n0 cs t v w)(hc:Chg T w w')(hT:∀ k,T k→k<n0):NewT n0 cs t v w':=by
 obtain⟨q,h1,h2,h3⟩:=h
 exact⟨q,h1,h2,h3.chg hc (fun hq=>by have:=hT _ hq;omega)⟩
def TtF (n9:Nat) (ov:Value) (ts:List Tp) (T:Tp):List Value→World→Prop
 | [],w=>OwnTp w ov ts
 | v::_,w=>OwnTp w v (ts++[T])∧∀ k,v.ownBlock=some k→ov.ownBlock=some k∨n9≤k
theorem TtF.nil {n9:Nat}{ov:Value}{ts:List Tp}{T:Tp}{w w':World}(hc:Chg Nil w w'):∀ us,TtF n9 ov ts T us w→TtF n9 ov ts T us w'
 | [],h=>ownsRow_chg h hc (fun _ _ h=>h)
 | _::_,h=>⟨ownsRow_chg h.1 hc (fun _ _ h=>h),h.2⟩
def ListAt (w:World) (text:List UInt8) (e:Ending) (w':World):Prop:=
 Chg Nil w w'∧((listT (linesOf text)=none∧e = .returned (.tuple #[.slice none 0 0,.bool false]))∨
  ∃ ts v,listT (linesOf text)=some ts∧e = .returned (.tuple #[v,.bool true])∧OwnTp w' v ts∧∀ b,v.ownBlock=some b→w.heap.size≤b)
theorem linesOf_split {ps:List (List UInt8)}(h:ps≠[]):linesV ps=if ps[ps.length-1]? = some [] then ps.take (ps.length-1) else ps:=by
 obtain⟨qs,p,rfl⟩:∃ qs p,ps=qs++[p]:=⟨ps.dropLast,ps.getLast h,(List.dropLast_concat_getLast h).symm⟩
 rw[linesV_last];have e:(qs++[p])[(qs++[p]).length-1]? = some p:=by simp
 rw[e];by_cases hp:p=[]
 ·subst hp;rw[if_pos rfl,if_pos rfl]
  simp
 ·rw[if_neg hp,if_neg (fun h=>hp (Option.some.inj h))]
theorem rlist_any {w:World} (hT2:∀ W,Chg Nil w W→TabE W∧MaxL W) (text:ByteArray) (hs:text.size≤2000) :
  Calls Tryz.prog 9 #[.string text] w (ListAt w text.data.toList):=by
 have HT2:=Lib.hid hT2
 have HS:=Lib.hid hs
 have hsp:=split_any text 10 w (by omega) (hT2 w (Chg.refl _ _)).2
 clear hT2 hs;go_enter Tryz.func9,Tryz.ntmps9
 go_upto_region 3 with (go_at_call 57;refine hsp.mono ?_;rintro e w' ⟨ws,hws,rfl,rfl⟩)
 obtain⟨g,hg⟩:∃ g,w.heap.size=g:=⟨_,rfl⟩
 obtain⟨w1,hw1⟩:∃ w1,w.alloc (.cells (ws.map Value.string).toArray 9)=w1:=⟨_,rfl⟩
 have hc1:Chg Nil w w1:=by rw[←hw1];exact (Chg.refl Nil w).alloc _
 have hBW:Box w1 g (ws.map Value.string) 9:=by
  rw[←hw1,←hg];exact Box.new w (ws.map Value.string) _
 rw[hg,hw1];have hne:ws≠[]:=fun h=>by
  rw[h] at hws;exact cutAt_ne 10 text.data.toList hws.symm
 have hn0:0<ws.length:=List.length_pos_iff.2 hne
 have hwl:ws.length≤2001:=by
  have h1:=congrArg List.length hws
  have h2:=cutAt_len (c:=10) text.data.toList
  have h3:=HS.out
  rw[size_eq] at h3;rw[List.length_map] at h1;omega
 have hws1:∀ y∈ws,y.size≤2000:=fun y hy=>by
  have h1:y.data.toList∈cutAt 10 text.data.toList:=by rw[←hws];exact List.mem_map_of_mem hy
  have h2:=cutAt_piece h1
  have h4:=HS.out
  rw[size_eq] at h4 ⊢
  omega
 obtain⟨z,hz⟩:∃ z,ws[ws.length-1]? = some z:=⟨ws[ws.length-1],List.getElem?_eq_getElem (by omega)⟩
 have pz:w1.cell? ⟨g,ws.length-1,none⟩=some (.string z):=hBW.cell (j:=ws.length-1) (by rw[List.getElem?_map,hz];rfl)
 have HLN:Hid (linesOf text.data.toList=if z.data.toList=[] then (ws.take (ws.length-1)).map (·.data.toList) else ws.map (·.data.toList)):=by
  show linesV (cutAt 10 text.data.toList)=_
  have e:ws.map (·.data.toList)≠[]:=fun h=>hne (List.map_eq_nil_iff.1 h)
  have h1:=linesOf_split e
  rw[List.length_map,List.getElem?_map,hz,←List.map_take] at h1
  rw[←hws,h1];by_cases hzz:z.data.toList=[]
  ·rw[if_pos hzz,if_pos (show Option.map (fun x:ByteArray=>x.data.toList) (some z)=some [] by rw[Option.map_some,hzz])]
  ·rw[if_neg hzz,if_neg (show ¬Option.map (fun x:ByteArray=>x.data.toList) (some z)=some [] from fun h=>hzz (Option.some.inj h))]
 have HBW:=Lib.hid hBW
 have HW1:=Lib.hid hws1
 have HC1:=Lib.hid hc1
 have HG:=Lib.hid hg
 have HSZ1:Hid (w1.heap.size=g+1):=by show _=_;rw[←hw1,World.size_alloc,hg]
 have hm1:(0:Int)≤(ws.length:Int)-1:=by omega
 have hm2:(ws.length:Int)-1<(ws.length:Int):=by omega
 have hm3:((ws.length:Int)-1).toNat=ws.length-1:=by omega
 have hm4:(ws.length:Int)≤2001:=by omega
 clear hws hc1 hBW hws1 hz hne hw1 hg hsp;obtain⟨zb,hzb⟩:∃ zb,z.toList.isEmpty=zb:=⟨_,rfl⟩
 have HZB:=Lib.hid hzb
 go_upto_if 21 with fail
 clear hzb;go_cut [5] from 22 (fun v5 wr=>∃ n cap,v5 = .slice (some ⟨g,0,none⟩) n cap∧Hid ((ws.take n).map (·.data.toList)=linesOf text.data.toList)∧Hid (n≤ws.length)∧Hid (wr=w1))
 case first=>
  cases zb with
  | true=>
   have hzz:z.data.toList=[]:=by have h:=HZB.out;rw[list_toList] at h;exact List.isEmpty_iff.1 h
   have HL2:Hid ((ws.take (ws.length-1)).map (·.data.toList)=linesOf text.data.toList):=by
    show _=_
    rw[HLN.out,if_pos hzz]
   clear hzz;go_wp2_with fail;go_meet;exact⟨_,_,rfl,HL2,Nat.sub_le _ _,rfl⟩
  | false=>
   have hzz:¬z.data.toList=[]:=fun h=>by have h':=HZB.out;rw[list_toList,h] at h';cases h'
   have HL2:Hid ((ws.take ws.length).map (·.data.toList)=linesOf text.data.toList):=by
    show _=_
    rw[HLN.out,if_neg hzz,List.take_length]
   clear hzz;go_wp2_with fail;go_meet;exact⟨_,_,rfl,HL2,Nat.le_refl _,rfl⟩
 case rest=>
  obtain⟨n,cap,rfl,HL2,HNW,HE⟩:=hcut
  obtain rfl:=HE.out
  obtain⟨wA,rfl⟩:∃ wA,wA=wc:=⟨_,rfl⟩
  have hn4:(n:Int)≤2001:=by have:=HNW.out;omega
  clear pz hm1 hm2 hm3 hm4;go_wp2_with fail;go_loopw [4,29] (fun ov iv wr=>∃ (wq:World) (i:Nat) (ts:List Tp),wq=wr∧i≤n∧iv = .int .i64 i∧Hid (OwnTp wr ov ts)∧Hid (listT ((ws.take i).map (·.data.toList))=some ts)∧Hid (∀ b,ov.ownBlock=some b→g+1≤b)∧Hid (Chg Nil wA wr)) (fun _ iv _=>n-(RowKit.intOf iv).toNat)
  case atStart=>exact⟨_,0,[],rfl,Nat.zero_le _,rfl,World.ownsRow_nil _ _ _ _,rfl,fun b hb=>(by cases hb),Chg.refl _ _⟩
  case round=>
   obtain⟨wr,i,ts,rfl,hi,rfl,HOT,HLT,HOB,HCR⟩:=hrel
   by_cases hin:i<n
   ·have hii:(i:Int)<(n:Int):=by omega
    have hi3:(i:Int)+1≤3000:=by omega
    have hwl2:=HNW.out
    obtain⟨y,hy⟩:∃ y,ws[i]? = some y:=⟨ws[i]'(by omega),List.getElem?_eq_getElem (by omega)⟩
    have py:wr.cell? ⟨g,i,none⟩=some (.string y):=(HBW.out.chg HCR.out (fun h=>h)).cell (j:=i) (by rw[List.getElem?_map,hy];rfl)
    have hys:y.size≤2000:=HW1.out y (List.mem_of_getElem? hy)
    have htk:(ws.take (i+1)).map (·.data.toList)=(ws.take i).map (·.data.toList)++[y.data.toList]:=by rw[List.take_add_one,hy,List.map_append];rfl
    have HTK:=Lib.hid htk
    have hbad:lineT y.data.toList=none→listT (linesOf text.data.toList)=none:=fun hno=>by
     have e:ws.take n=ws.take i++y::(ws.drop (i+1)).take (n-(i+1)):=by
      have e1:(ws.take n).drop i=y::(ws.drop (i+1)).take (n-(i+1)):=by
       rw[List.drop_take,show n-i=(n-(i+1))+1 by omega]
       have e2:ws.drop i=y::ws.drop (i+1):=by
        rw[List.drop_eq_getElem_cons (by omega)]
        have e3:=List.getElem?_eq_getElem (l:=ws) (i:=i) (by omega)
        rw[hy] at e3;rw[←Option.some.inj e3]
       rw[e2,List.take_succ_cons]
      have e4:=List.take_take_append_drop (l:=ws) hin
      rw[e1] at e4;exact e4.symm
     rw[←HL2.out,e,List.map_append,List.map_cons];exact listT_bad hno
    have HBAD:=Lib.hid hbad
    have HYS:=Lib.hid hys
    have HTLn:Hid (ts.length<2002):=by
     have h1:=listT_len HLT.out
     rw[List.length_map,List.length_take] at h1;show ts.length<2002
     omega
    have hspl:=split_any y 32 wr (by omega) (HT2.out wr (HC1.out.trans HCR.out (fun _ h=>.inl h))).2
    have hgr:=HCR.out.size
    clear htk hbad hys hwl2 hy;go_upto_region 9 with (go_at_call 57;refine hspl.mono ?_;rintro e w' ⟨us,hus,rfl,rfl⟩)
    obtain⟨g2,hg2⟩:∃ g2,wr.heap.size=g2:=⟨_,rfl⟩
    obtain⟨W1,hW1⟩:∃ W1,wr.alloc (.cells (us.map Value.string).toArray 9)=W1:=⟨_,rfl⟩
    have hcW:Chg Nil wr W1:=by rw[←hW1];exact (Chg.refl Nil wr).alloc _
    have hBU:Box W1 g2 (us.map Value.string) 9:=by
     rw[←hW1,←hg2];exact Box.new wr (us.map Value.string) _
    rw[hg2,hW1];have hul:us.length≤2001:=by
     have h1:=congrArg List.length hus
     have h2:=cutAt_len (c:=32) y.data.toList
     have h3:=HYS.out
     rw[size_eq] at h3;rw[List.length_map] at h1;omega
    have hus1:∀ x∈us,x.size≤2000:=fun x hx=>by
     have h1:x.data.toList∈cutAt 32 y.data.toList:=by rw[←hus];exact List.mem_map_of_mem hx
     have h2:=cutAt_piece h1
     have h4:=HYS.out
     rw[size_eq] at h4 ⊢
     omega
    have HLU:Hid (lineT y.data.toList=wordsT (us.map (·.data.toList))):=by
     show _=_
     rw[lineT_words,←hus]
    have HCW:=Lib.hid hcW
    have HBU:=Lib.hid hBU
    have HU1:=Lib.hid hus1
    have HL3:Hid (headT (us.map (·.data.toList))=true→∃ nm cm x1 r,us=nm::cm::x1::r):=fun h=>by
     match us,h with
     | [],h=>cases h
     | [_],h=>cases h
     | [_,_],h=>cases h
     | nm::cm::x1::r,_=>exact⟨nm,cm,x1,r,rfl⟩
    clear hus hcW hBU hus1 hg2 hspl py hgr;obtain⟨v9,hv9⟩:∃ v9,v9=u96:=⟨_,rfl⟩
    subst hv9;go_cut [56,96] from 35 (fun v42 v96 wx=>v96=v9∧∃ b,v42 = .bool b∧Hid (b = !headT (us.map (·.data.toList)))∧Hid (Chg Nil W1 wx))
    case first=>
     by_cases hfew:us.length<3
     ·have hz3:(us.length:Int)<3:=by omega
      have HNO:Hid (true = !headT (us.map (·.data.toList))):=by
       rw[headT_few (by rw[List.length_map];exact hfew)]
       rfl
      clear hfew hW1;go_wp2_with fail;go_meet;exact⟨rfl,_,rfl,HNO,Chg.refl _ _⟩
     have h3:3≤us.length:=by omega
     have hz3:¬(us.length:Int)<3:=by omega
     have hi0:(0:Int)<(us.length:Int):=by omega
     have hi1:(1:Int)<(us.length:Int):=by omega
     obtain⟨nm,cm,x1,r,hwsE⟩:∃ nm cm x1 r,us=nm::cm::x1::r:=by
      match us,h3 with
      | nm::cm::x1::r,_=>exact⟨nm,cm,x1,r,rfl⟩
     have p0:W1.cell? ⟨g2,0,none⟩=some (.string nm):=HBU.out.cell (j:=0) (by rw[hwsE];rfl)
     have p1:W1.cell? ⟨g2,1,none⟩=some (.string cm):=HBU.out.cell (j:=1) (by rw[hwsE];rfl)
     have hnm:nm.size≤1000000:=Nat.le_trans (HU1.out nm (by rw[hwsE];simp)) (by omega)
     have HNM:=Lib.hid (ref_topic_big nm W1 hnm)
     have HHD:Hid (headT (us.map (·.data.toList))=(nameOk 10 cutTopic nm.data.toList&&(cm.data.toList==[48]||cm.data.toList==[49]))):=by rw[hwsE];rfl
     generalize headT (us.map (·.data.toList))=hd at *;generalize nameOk 10 cutTopic nm.data.toList=ok at *
     have hcl:cm.toList=cm.data.toList:=list_toList cm
     rw[←hcl] at HHD;clear hwsE hnm h3 hfew hW1 hcl;go_wp2_with (go_at_call 58;refine HNM.out.mono ?_;rintro e w' ⟨rfl,rfl⟩)
     all_goals (go_meet;refine⟨rfl,_,rfl,?_,Chg.refl _ _⟩;show _=_;rw[HHD.out];simp[*])
    case rest=>
     obtain⟨rfl,b,rfl,hb,hcr⟩:=hcut
     have HC:=Lib.hid (HCW.out.trans hcr.out (fun _ h=>.inl h))
     have HCA:=Lib.hid ((HC1.out.trans HCR.out (fun _ h=>.inl h)).trans HC.out (fun _ h=>.inl h))
     cases b with
     | true=>
      have HNO:=Lib.hid (wordsT_head (l:=us.map (·.data.toList)) (by have h:=hb.out;cases hh:headT (us.map (·.data.toList)) with | false=>rfl | true=>rw[hh] at h;cases h))
      clear hb hcr hW1;go_wp2_with fail;go_ret2;exact⟨HCA.out,.inl ⟨HBAD.out (HLU.out.trans HNO.out),rfl⟩⟩
     | false=>
      have hhd:headT (us.map (·.data.toList))=true:=by have h:=hb.out;cases hh:headT (us.map (·.data.toList)) with | true=>rfl | false=>rw[hh] at h;cases h
      obtain⟨nm,cm,x1,r,hwsE⟩:=HL3.out hhd
      have HWT:Hid ((cm.data.toList=[48]∨cm.data.toList=[49])∧wordsT (us.map (·.data.toList))=(numsT ((x1::r).map (·.data.toList))).map fun l=>⟨nm.data.toList,cm.data.toList==[49],l⟩):=by
       rw[hwsE] at hhd ⊢
       exact wordsT_of hhd
      have hBW:=HBU.out.chg hcr.out (fun h=>h)
      have HBC:=Lib.hid hBW
      have hne2:¬us.length=2:=by rw[hwsE];simp
      have h3u:3≤us.length:=by rw[hwsE];simp
      obtain⟨xs,hxs⟩:∃ xs,x1::r=xs:=⟨_,rfl⟩
      obtain⟨nr,hnr⟩:∃ nr,xs.length=nr:=⟨_,rfl⟩
      rw[hxs] at hwsE HWT
      have hwn:(us.length:Int)-2=(nr:Int):=by rw[hwsE,←hnr];simp;omega
      have hnb:(nr:Int)≤2001:=by omega
      have HNR:=Lib.hid hnr
      have HYS2:Hid (∀ y∈xs,y.size≤2000):=fun y hy=>HU1.out y (by rw[hwsE];exact List.mem_cons_of_mem _ (List.mem_cons_of_mem _ hy))
      have h2n:2≤us.length:=by omega
      have hle2:(2:Int)≤(us.length:Int):=by omega
      have hwn2:us.length-2=nr:=by omega
      have HWN:=Lib.hid hwn2
      have HWE:=Lib.hid hwsE
      obtain⟨we,hwe⟩:∃ we,we=wc:=⟨_,rfl⟩
      clear hhd hb hcr hW1 hBW hwsE HL3 hxs hnr hwe;go_wp2_with fail;go_loopw [60] (fun iv wx=>∃ (wq:World) (k:Nat) (l:List Int),wq=wx∧k≤nr∧iv = .int .i64 k∧Hid (numsT ((xs.take k).map (·.data.toList))=some l)∧Hid (Chg Nil wc wx)) (fun iv _=>nr-(RowKit.intOf iv).toNat)
      case atStart=>exact⟨_,0,[],rfl,Nat.zero_le _,rfl,rfl,Chg.refl _ _⟩
      case round=>
       obtain⟨wx,k,zl,rfl,hk,rfl,HNT,HCX⟩:=hrel
       have HCAX:=Lib.hid (HCA.out.trans HCX.out (fun _ h=>.inl h))
       by_cases hkn:k<nr
       ·have hki:(k:Int)<(nr:Int):=by omega
        have hk1:(k:Int)+1≤3000:=by omega
        have hxl:k<xs.length:=by rw[HNR.out];exact hkn
        obtain⟨u,hu⟩:∃ u,xs[k]=u:=⟨_,rfl⟩
        have py:wx.cell? ⟨g2,2+k,none⟩=some (.string u):=(HBC.out.chg HCX.out (fun h=>h)).cell (j:=2+k) (by
         rw[HWE.out,List.getElem?_map,Nat.add_comm 2 k]
         show (xs[k]?).map _=_
         rw[List.getElem?_eq_getElem hxl,hu]
         rfl)
        have hys:u.size≤1000000:=by
         have h9:=HYS2.out u (by rw[←hu];exact List.getElem_mem hxl)
         omega
        have HTB:=Lib.hid (HT2.out wx HCAX.out).1
        have HAT:=Lib.hid (atoiBig_any HTB.out u hys)
        have HMD:=Lib.hid (fun W=>made_big u ⟨digitsC.toArray⟩ W hys)
        have htk:(xs.take (k+1)).map (·.data.toList)=(xs.take k).map (·.data.toList)++[u.data.toList]:=by rw[List.take_succ_eq_append_getElem hxl,hu,List.map_append];rfl
        have HTKU:=Lib.hid htk
        have HBADU:Hid (numT u.data.toList=none→listT (linesOf text.data.toList)=none):=fun hno=>by
         refine HBAD.out (HLU.out.trans ?_)
         have e:xs=xs.take k++u::xs.drop (k+1):=by rw[←hu,List.getElem_cons_drop,List.take_append_drop]
         rw[HWT.out.2,e,List.map_append,List.map_cons,numsT_bad hno]
         rfl
        have hk2:2+(k:Int)<(us.length:Int):=by omega
        have HKN:=Lib.hid hkn
        clear hys hu hxl htk HTB hwn hkn;go_wp2_with fail;refine HAT.out.mono ?_
        rintro e w8 ⟨hc8,⟨v,hv,rfl⟩ | ⟨hno,v,t,N,rfl⟩⟩
        ·have HC8:=Lib.hid hc8
         have HV:=Lib.hid hv
         have HMD8:=Lib.hid (HMD.out w8)
         obtain⟨al,hal⟩:∃ al,u.data.toList.all (fun x=>(ByteArray.mk digitsC.toArray).data.toList.contains x)=al:=⟨_,rfl⟩
         rw[hal] at HMD8;have hal2:u.data.toList.all (digitsC.contains ·)=al:=hal
         have HNY:Hid (numT u.data.toList=if al=true then some v else none):=by
          show (match atoiAll u.data.toList with | .ok v=>if u.data.toList.all (digitsC.contains ·) then some v else none | _=>none)=_
          rw[HV.out];simp only[hal2]
         have hpos:al=true→0≤v:=fun h=>atoi_pos HV.out (hal2.trans h)
         clear hc8 hv py hal hal2;cases al with
         | true=>
          have hv0:¬v<0:=by have:=hpos rfl;omega
          clear hpos;go_wp2_with (go_at_call 60;refine HMD8.out.mono ?_;rintro e w' ⟨rfl,rfl⟩)
          go_roundw
          case rel=>
           refine⟨_,k+1,zl++[v],rfl,HKN.out,by simp,?_,HCX.out.trans HC8.out (fun _ h=>.inl h)⟩
           show _=_
           rw[HTKU.out];exact numsT_snoc _ _ HNT.out (HNY.out.trans (if_pos trivial))
          case measure=>have:=HKN.out;simp[RowKit.intOf];omega
         | false=>
          clear hpos;by_cases hv0:v<0
          ·go_wp2_with fail;go_ret2;exact⟨HCAX.out.trans HC8.out (fun _ h=>.inl h),.inl ⟨HBADU.out (HNY.out.trans (if_neg (by simp))),rfl⟩⟩
          ·go_wp2_with (go_at_call 60;refine HMD8.out.mono ?_;rintro e w' ⟨rfl,rfl⟩)
           go_ret2;exact⟨HCAX.out.trans HC8.out (fun _ h=>.inl h),.inl ⟨HBADU.out (HNY.out.trans (if_neg (by simp))),rfl⟩⟩
        ·have HNY:Hid (numT u.data.toList=none):=by
          show (match atoiAll u.data.toList with | .ok v=>if u.data.toList.all (digitsC.contains ·) then some v else none | _=>none)=_
          split
          ·next v9 e9=>exact absurd e9 (hno v9)
          ·rfl
         have HC8:=Lib.hid hc8
         clear hc8 hno py;go_wp2_with fail;go_ret2;exact⟨HCAX.out.trans HC8.out (fun _ h=>.inl h),.inl ⟨HBADU.out HNY.out,rfl⟩⟩
       ·have hke:k=nr:=by omega
        subst hke;have hnt:numsT (xs.map (·.data.toList))=some zl:=by
         have h:=HNT.out
         rw[List.take_of_length_le (by rw[HNR.out];exact Nat.le_refl _)] at h
         exact h
        obtain⟨cp,hcp⟩:∃ cp,(cm.data.toList==[49])=cp:=⟨_,rfl⟩
        rw[hcp] at HWT;rw[←list_toList cm] at hcp
        have HTP:Hid (lineT y.data.toList=some ⟨nm.data.toList,cp,zl⟩):=by
         show _=_
         rw[HLU.out,HWT.out.2,hnt];rfl
        have hzl:=numsT_len hnt
        rw[List.length_map,HNR.out] at hzl;have htop:Tp.top ⟨nm.data.toList,cp,zl⟩=[.string nm,.int .i64 (k:Nat),.bool cp]:=by
         unfold Tp.top;show[Value.string ⟨nm.data.toList.toArray⟩,_,_]=_
         rw[ba_list,hzl]
        have HTOP:=Lib.hid htop
        have hBX:=HBC.out.chg HCX.out (fun h=>h)
        have p0:wx.cell? ⟨g2,0,none⟩=some (.string nm):=hBX.cell (j:=0) (by rw[HWE.out];rfl)
        have p1:wx.cell? ⟨g2,1,none⟩=some (.string cm):=hBX.cell (j:=1) (by rw[HWE.out];rfl)
        have hOT:OwnTp wx u4 ts:=ownsRow_chg HOT.out ((HC.out.trans HCX.out (fun _ h=>.inl h))) (fun _ _ h=>h)
        have HN1:Hid (∀ b,u4.ownBlock=some b→b<wx.heap.size):=fun b hb=>by
         obtain⟨cur,hc⟩:=row_block hOT hb
         exact (Array.getElem?_eq_some_iff.1 hc).1
        have HNG:Hid (¬u4.ownBlock=some g2):=box_row_ne' hBX hOT (by decide)
        have HOX:=Lib.hid hOT
        have hi0:(0:Int)<(us.length:Int):=by omega
        have hi1:(1:Int)<(us.length:Int):=by omega
        have hi0n:0<us.length:=by omega
        have hi1n:1<us.length:=by omega
        clear hnt hzl htop hBX hOT hkn hk hin;go_upto_region 18 with fail;refine Ch.wp_region_chain _ (Chg (fun b=>u4.ownBlock=some b)) [13] (TtF wx.heap.size u4 ts ⟨nm.data.toList,cp,zl⟩) (by kernel_rfl) (fun _=>Chg.refl _ _) (fun _ _ _ h k=>h.trans k (fun _ h=>.inl h)) [[],[],[1],[2],[],[4],[5],[],[7],[8],[9],[3,6,10],[11],[0,12],[13]] rfl (by kernel_rfl) (by kernel_rfl) (Chg.refl _ _).drew ?_ ?_
        ·exact TtF.nil (Chg.refl Nil _).drew [] HOX.out
        iterate 3 ((with_reducible apply Ch.Walk.eq);(case hd=>rfl);(case hi=>rfl);case h=>(intro w2 hw2 N hN;simp only[Ch.depB];go_simp;(try go_bits);with_reducible exact hN _ (Chg.refl _ _) (fun _ h=>h)))
        ((with_reducible apply Ch.Walk.eq);(case hd=>rfl);(case hi=>rfl);case h=>(intro w2 hw2 N hN;(have hq:=hw2.cell p0 HNG.out);simp only[Ch.depB];go_simp;(try go_bits);with_reducible exact hN _ (Chg.refl _ _) (fun _ h=>h)))
        iterate 2 ((with_reducible apply Ch.Walk.eq);(case hd=>rfl);(case hi=>rfl);case h=>(intro w2 hw2 N hN;simp only[Ch.depB];go_simp;(try go_bits);with_reducible exact hN _ (Chg.refl _ _) (fun _ h=>h)))
        simp only[List.nil_append,List.cons_append]
        refine Ch.Walk.eq (c:=.int .i64 (k:Nat)) rfl rfl ?_ ?_
        ·intro w2 hw2 N hN;simp only[Ch.depB,Ch.depC,Nat.reduceBEq,Nat.reduceAdd]
         go_simp;try go_bits
         exact hN _ (Chg.refl _ _) (fun _ h=>h)
        simp only[List.nil_append,List.cons_append]
        iterate 2 ((with_reducible apply Ch.Walk.eq);(case hd=>rfl);(case hi=>rfl);case h=>(intro w2 hw2 N hN;simp only[Ch.depB];go_simp;(try go_bits);with_reducible exact hN _ (Chg.refl _ _) (fun _ h=>h)))
        ((with_reducible apply Ch.Walk.eq);(case hd=>rfl);(case hi=>rfl);case h=>(intro w2 hw2 N hN;(have hq:=hw2.cell p1 HNG.out);simp only[Ch.depB];go_simp;(try go_bits);with_reducible exact hN _ (Chg.refl _ _) (fun _ h=>h)))
        refine Ch.Walk.eq (c:=.bool cp) rfl rfl ?_ ?_
        ·intro w2 hw2 N hN;simp only[Ch.depB,Ch.depC,Nat.reduceBEq,Nat.reduceAdd]
         go_simp;exact hN _ (Chg.refl _ _) (fun _ h=>h)
        simp only[List.nil_append,List.cons_append]
        ((with_reducible apply Ch.Walk.eq);(case hd=>rfl);(case hi=>rfl);case h=>(intro w2 hw2 N hN;simp only[Ch.depB];go_simp;(try go_bits);with_reducible exact hN _ (Chg.refl _ _) (fun _ h=>h)))
        simp only[List.nil_append,List.cons_append]
        refine Ch.Walk.sat (NewT wx.heap.size [.string nm,.int .i64 (k:Nat),.bool cp] 41) (fun _ _ _ h k=>h.keep k HN1.out) rfl rfl ?_ ?_
        ·intro w2 hw2 N hN;simp only[Ch.depB,Ch.depC,Nat.reduceBEq,Nat.reduceAdd]
         go_simp;have hal:=(Chg.refl Nil w2).alloc (.cells #[.string nm,.int .i64 (k:Nat),.bool cp] 41)
         exact hN _ _ ⟨w2.heap.size,rfl,hw2.size,Box.new w2 [.string nm,.int .i64 (k:Nat),.bool cp] _⟩ (hal.weak (fun _ h=>h.elim)) (fun vs hF=>TtF.nil hal vs hF)
        simp only[List.nil_append,List.cons_append]
        refine Ch.Walk.chain 0 rfl rfl ?_ ?_
        ·intro w2 hw2 vs hvs hF N hN;obtain rfl:=List.eq_nil_of_length_eq_zero hvs
         have hF1:OwnTp w2 u4 ts:=hF
         clear hF;simp only[Ch.depB,Ch.depC,Nat.reduceBEq,Nat.reduceAdd]
         rintro v ⟨q8,rfl,hq8,hb8⟩
         have hz3:wx.heap.size≤w2.heap.size:=hw2.size
         refine Ch.if_append_row rfl (.tmp 81) (.tmp 93) 30 30 rfl topT _ Tryz.underlying30 (by intro _;simp) u4 ts.length (ts.flatMap Tp.top) rfl hF1 (.slice (some ⟨q8,0,none⟩) 1 1) 1 [.string nm,.int .i64 (k:Nat),.bool cp] rfl (Source.box hb8 rfl (by rw[←HTOP.out];exact Tp.top_one _)) (by have:=HTLn.out;unfold maxLen;omega) (by have:=HTLn.out;omega) (fun v' w' h1 h2=>hN _ _ (h2.chg.weak (fun k hk=>.inl hk)) ?_)
         refine⟨?_,fun k hk=>(h2.own k hk).imp id fun h=>Nat.le_trans hz3 h⟩
         unfold OwnTp;rw[List.length_append,List.length_singleton,List.flatMap_append,List.flatMap_cons,List.flatMap_nil,List.append_nil,HTOP.out];exact h1
        simp only[List.nil_append,List.cons_append]
        refine Ch.Walk.copy 13 rfl rfl rfl ⟨rfl,94,.inr rfl,rfl⟩ ?_
        intro w13 hw13;simp only[List.nil_append,List.cons_append,Ch.Fin,List.map_cons,List.map_nil,List.getD_cons_zero,List.getD_cons_succ]
        intro v12 _ v13 _ hF;have HF1:Hid (OwnTp w13 v13 (ts++[⟨nm.data.toList,cp,zl⟩])):=hF.1
        have HF2:Hid (∀ b,v13.ownBlock=some b→u4.ownBlock=some b∨wx.heap.size≤b):=hF.2
        have HW13:Hid (Chg Nil wA w13):=((HCR.out.trans (HC.out.trans HCX.out (fun _ h=>.inl h)) (fun _ h=>.inl h))).trans hw13 (fun b hb=>.inr (by have h1:=HOB.out b hb;have h2:=HSZ1.out;omega))
        have HGE:Hid (∀ b,v13.ownBlock=some b→g+1≤b):=fun b hb=>by
         rcases HF2.out b hb with h | h
         ·exact HOB.out b h
         ·have h1:=(HCR.out.trans (HC.out.trans HCX.out (fun _ h=>.inl h)) (fun _ h=>.inl h)).size
          have h2:=HSZ1.out
          omega
        clear hF hw13 p0 p1 hcp hwn;go_simp;go_wp2_with fail;go_roundw
        case rel=>
         refine⟨_,i+1,ts++[⟨nm.data.toList,cp,zl⟩],rfl,by omega,by simp,HF1,?_,HGE,HW13⟩
         show _=_
         rw[HTK.out];exact listT_snoc _ _ HLT.out HTP.out
        case measure=>simp[RowKit.intOf];omega
   ·have hie:i=n:=by omega
    subst hie;have hnn:¬(i:Int)<(i:Int):=by omega
    have HCA:=Lib.hid (HC1.out.trans HCR.out (fun _ h=>.inl h))
    go_wp2_with fail;go_ret2;refine⟨HCA.out,.inr ⟨ts,_,by rw[←HL2.out];exact HLT.out,rfl,HOT.out,fun b hb=>by have:=HOB.out b hb;have:=HG.out;omega⟩⟩
end Go.Proofs.YtobegmcbfgnpnaaGreatDoor
