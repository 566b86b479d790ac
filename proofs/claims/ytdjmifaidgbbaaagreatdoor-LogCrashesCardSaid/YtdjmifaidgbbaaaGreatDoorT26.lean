/-
  Records are put at a log's end. (Of the logs' seat.)
-/
import Derived.Test.YtdjmifaidgbbaaaGreatDoorT25
set_option linter.unusedVariables false
set_option linter.unusedSimpArgs false
set_option maxHeartbeats 0
set_option maxRecDepth 200000
namespace Go.Proofs.YtdjmifaidgbbaaaGreatDoor
open Go.RowKit Go.Maps
theorem LgS.grow {B:Nat→Prop}{w w':World}{p l:Nat}{S:Nat→Prop}{sv:Value}{ss:List (Nat×Value)}{d:Dk}{g:Lg}(h:LgS B w p l S sv ss d g)(hc:Chg Nil w w'):LgS (fun k=>B k∨(w.heap.size≤k∧k<w'.heap.size)) w' p l S sv ss d g:=by
 have h2:=h.nil hc
 refine⟨fun k hk=>hk.elim (h2.lo k) (·.2),h2.a,h2.c,h2.o,h2.len,h2.m,fun k hk=>⟨?_,(h2.sl k hk).2⟩,fun k hk=>⟨?_,(h2.lb k hk).2⟩,fun k hk=>?_,h2.apart⟩
 ·rintro (hb | hb)
  ·exact (h2.sl k hk).1 hb
  ·have:=(h.sl k hk).2.2.2;omega
 ·rintro (hb | hb)
  ·exact (h2.lb k hk).1 hb
  ·have:=h.lt.1 k hk;omega
 ·rintro (hb | hb)
  ·exact h2.tb k hk hb
  ·have:=h.lt.2 k hk;omega
theorem LgS.less {B B':Nat→Prop}{w:World}{p l:Nat}{S:Nat→Prop}{sv:Value}{ss:List (Nat×Value)}{d:Dk}{g:Lg}(h:LgS B' w p l S sv ss d g)(hB:∀ k,B k→B' k):LgS B w p l S sv ss d g:=
 ⟨fun k hk=>h.lo k (hB k hk),h.a,h.c,h.o,h.len,h.m,fun k hk=>⟨fun hb=>(h.sl k hk).1 (hB k hb),(h.sl k hk).2⟩,fun k hk=>⟨fun hb=>(h.lb k hk).1 (hB k hb),(h.lb k hk).2⟩,fun k hk hb=>h.tb k hk (hB k hb),h.apart⟩
theorem roll_last (d:Dk) (g:Lg):(rollLg d g).2.2.last=g.last∨(rollLg d g).2.2.last=⟨segName g.dir g.stop.toNat,g.stop,[],0⟩:=by
 obtain⟨j1,j2,j3⟩:=flush_keeps d g
 unfold rollLg;split
 ·unfold moreLg;split
  ·refine .inr ?_
   have h2:=(stop_keeps j1).2
   rw[h2,j2];unfold Lg.last;simp
  ·exact .inl (stop_keeps j1).1
 ·exact .inl (stop_keeps j1).1
def LaF (B:Nat→Prop) (p l q:Nat) (S:Nat→Prop) (sv:Value) (ss:List (Nat×Value)) (d:Dk) (g:Lg) (A:Nat×Dk×Sg):List Value→World→Prop
 | [],w=>LgS B w p l S sv ss d g
 | [v],w=>v = .pointer (some ⟨q,0,none⟩)∧LgS B w p l S sv ss d g
 | _::_::_,w=>∃ S' ss',LgS B w p l S' sv ss' A.2.1 { g with segs:=g.segs.set (g.segs.length-1) A.2.2 }∧ss'.length=ss.length
def addV (base:Int) (k:Nat):Value:=.tuple #[.int .i64 (if k=0 then base else 0),errD k]
theorem putLg_ok {d:Dk}{g:Lg}{b:Bt}{A:Nat×Dk×Sg}(hA:addSg d g.last b.base b.en b.rs=A)(h:A.1=0):putLg d g b=(0,A.2.1,{ g with segs:=g.segs.set (g.segs.length-1) A.2.2 }):=by
 unfold putLg;rw[hA];exact if_pos h
theorem putLg_no {d:Dk}{g:Lg}{b:Bt}{A:Nat×Dk×Sg}(hA:addSg d g.last b.base b.en b.rs=A)(h:A.1≠0):putLg d g b=(A.1,A.2.1,({ g with segs:=g.segs.set (g.segs.length-1) A.2.2 }:Lg).fail A.1):=by
 unfold putLg;rw[hA];exact if_neg h
theorem ladd_any {B:Nat→Prop} {w:World} {p l:Nat} {S:Nat→Prop} {sv:Value} {ss:List (Nat×Value)} {d:Dk} {g:Lg} (h:LgS B w p l S sv ss d g) (hn:LgN B w ss g) (hT:Tabs w) (hTB:TabB B) (hdir:g.dir.length≤100) (hfew:ss.length≤9999)
  (base:Int) (hst:g.stop=base) (hb:0≤base∧base≤1099511627776) (a:Option Addr) (rs:List Rec) (cap:Nat) (hl:rs.length≤100) (hok:∀ r∈rs,Rec.Ok r) (hc:RecsAt w a rs) :
  Calls Tryz.prog 12 #[.pointer (some ⟨l,0,none⟩),.slice a rs.length cap] w fun e w'=>e = .returned (addV base (addLg d g rs).1)∧(∃ S' sv' ss',LgS B w' p l S' sv' ss' (addLg d g rs).2.1 (addLg d g rs).2.2∧0<ss'.length∧ss'.length≤ss.length+1)∧Chg (Off B) w w':=by
 have c6:=h.c.cell (j:=6) rfl
 have HH:=Lib.hid h
 have HN:=Lib.hid hn
 by_cases hd:g.down=true
 ·have HF:Hid (addLg d g rs=(6,d,g)):=if_pos hd
  rw[hd] at c6;clear h hn hd hT hTB hdir hfew hst hb hl hok hc;go_enter Tryz.func12,Tryz.ntmps12
  go_wp2_with fail;go_ret2;rw[HF.out];exact⟨rfl,⟨S,sv,ss,HH.out,HN.out.ne,by omega⟩,Chg.refl _ _⟩
 have hdf:g.down=false:=by simpa using hd
 rw[hdf] at c6;obtain⟨b,hbt⟩:∃ b:Bt,(⟨base,base+rs.length,numbered base rs⟩:Bt)=b:=⟨_,rfl⟩
 have HBT:=Lib.hid hbt
 have HADD:Hid (addLg d g rs=if encErr base (base+rs.length) (numbered base rs)≠0 then (encErr base (base+rs.length) (numbered base rs),d,g) else if 0<g.last.size∧g.most<(g.last.size:Int)+(b.bytes.length:Nat) then (if (rollLg d g).1=0 then putLg (rollLg d g).2.1 (rollLg d g).2.2 b else ((rollLg d g).1,(rollLg d g).2.1,(rollLg d g).2.2.fail (rollLg d g).1)) else putLg d g b):=by
  unfold Hid addLg;rw[if_neg hd]
  have e:g.batch rs=b:=by unfold Lg.batch;rw[hst];exact hbt
  rw[e,←hbt]
 have HEN:Hid (∀ w',Chg Nil w w'→Calls Tryz.prog 15 #[.pointer (some ⟨l,0,none⟩)] w' fun e w''=>e = .returned (.int .i64 base)∧Chg Nil w' w''):=fun w' hw=>by
  have h1:=lend_any (h.nil hw).t hn.ne hn.few (Nat.le_trans hn.pls (by omega))
  rw[hst] at h1;exact h1
 have HT:=Lib.hid hT
 have HTB:=Lib.hid hTB
 have HDIR:=Lib.hid hdir
 have HFEW:=Lib.hid hfew
 have HST:=Lib.hid hst
 have HOK:=Lib.hid hok
 clear h hn hT hTB hdir hfew hst hok hd hdf hbt;go_enter Tryz.func12,Tryz.ntmps12
 go_wp2_with fail;refine (HEN.out w (Chg.refl _ _)).mono ?_
 rintro e w0 ⟨rfl,hc0⟩
 have HC0:=Lib.hid hc0
 clear hc0 c6;go_wp2_with fail;refine (HEN.out w0 HC0.out).mono ?_
 rintro e w1 ⟨rfl,hc1⟩
 have HC1:=Lib.hid (HC0.out.trans hc1 (fun _ h=>h.elim))
 have hc:RecsAt w1 a rs:=RecsAt.chg HC1.out hc (fun _ _ h=>h)
 clear hc1 HC0;go_wp2_with fail;have hx0:Box (w1.alloc (.cells #[.int .i64 base,.int .i64 (base+rs.length),.slice none 0 0] 112)) w1.heap.size [.int .i64 base,.int .i64 (base+rs.length),.slice none 0 0] 112:=Box.new w1 [.int .i64 base,.int .i64 (base+rs.length),.slice none 0 0] 112
 have hch0:Chg Nil w1 (w1.alloc (.cells #[.int .i64 base,.int .i64 (base+rs.length),.slice none 0 0] 112)):=(Chg.refl Nil _).alloc _
 generalize w1.alloc (.cells #[.int .i64 base,.int .i64 (base+rs.length),.slice none 0 0] 112)=w2 at *;obtain⟨gx,hgx⟩:∃ gx,w1.heap.size=gx:=⟨_,rfl⟩
 rw[hgx] at hx0;rw[hgx];have HGX:=Lib.hid hgx
 clear hgx;go_loopw [29] (fun i wr=>∃ (k:Nat) (v:Value),k≤rs.length∧i = .int .i64 k∧Box wr gx [.int .i64 base,.int .i64 (base+rs.length),v] 112∧
  OwnR 37 wr v (numbered base (rs.take k))∧(∀ b,v.ownBlock=some b→gx<b)∧Chg Nil w1 wr) (fun i _=>rs.length-(intOf i).toNat)
 case atStart=>exact⟨0,_,Nat.zero_le _,rfl,hx0,OwnR.nil _ _,by simp[Value.ownBlock],hch0⟩
 case round=>
  obtain⟨k,v,hk,rfl,hx,hown,hvb,hch⟩:=hrel
  clear hx0 hch0;obtain⟨vx,vn,vc,rfl⟩:=ownsRow_form hown
  by_cases hlt:k<rs.length
  ·obtain⟨b0,off,rfl,hcell⟩:=RecsAt.chg hch hc (fun _ _ h=>h) k hlt
   have g0:wr.cell? ⟨b0,off+k*6,none⟩=_:=hcell 0 _ rfl
   have g1:=hcell 1 _ rfl
   have g2:=hcell 2 _ rfl
   have g3:=hcell 3 _ rfl
   have g4:=hcell 4 _ rfl
   have g5:=hcell 5 _ rfl
   have hx2:=hx.cell (j:=2) rfl
   have hx0:=hx.cell (j:=0) rfl
   have hgx:gx<wr.heap.size:=(Array.getElem?_eq_some_iff.1 hx).1
   have HS:Hid (numbered base (rs.take (k+1))=numbered base (rs.take k)++[{ rs[k] with off:=base+k }]):=by
    unfold Hid;rw[take_snoc rs k hlt,numbered_snoc,List.length_take,Nat.min_eq_left hk]
   clear hcell hc;generalize rs[k]=r at *;obtain⟨ro,rt,rk,rkey,rg,rval⟩:=r
   simp only at g0 g1 g2 g3 g4 g5
   have hln:(numbered base (rs.take k)).length=k:=by rw[numbered_length,List.length_take];omega
   have HW:=Lib.hid hln
   clear hln;generalize numbered base (rs.take k)=L at *
   have h63:L.length+1≤maxLen:=by rw[HW.out];unfold maxLen;omega
   have hby:(L.length+1)*64≤140737488355328:=by rw[HW.out];omega
   have hb1:=Box.new (wr.alloc (.cells (Rec.cells ⟨base+k,rt,rk,rkey,rg,rval⟩).toArray 37)) (Rec.cells ⟨base+k,rt,rk,rkey,rg,rval⟩) 37
   have hsz1:(wr.alloc (.cells (Rec.cells ⟨base+k,rt,rk,rkey,rg,rval⟩).toArray 37)).heap.size=wr.heap.size+1:=by simp
   rw[hsz1] at hb1;have HB1:=Lib.hid hb1
   have HH63:=Lib.hid h63
   have HBY:=Lib.hid hby
   have HX:=Lib.hid hx
   have HOW:=Lib.hid hown
   clear hb1 hsz1 h63 hby hx hown;go_wp2_with (at_builtin;go_must (refine wpList_append_grew rfl (.tmp 40) (.tmp 42) 33 33 rfl recsT _ Tryz.underlying33 (by intro _;simp) _ _ _ rfl ((HOW.out.alloc _).alloc _) _ 1 (Rec.cells ⟨base+k,rt,rk,rkey,rg,rval⟩) rfl (Source.box HB1.out rfl (Rec.cells_one _)) HH63.out HBY.out ?_);intro v2 w2 hown2 hg2 _;obtain⟨x2,n2,c2,rfl⟩:=ownsRow_form hown2;have hxw:Box w2 gx _ _:=(HX.out.chg (((Chg.refl Nil wr).alloc _).alloc _) (fun h=>h)).chg hg2.chg (fun h=>by have:=hvb _ h;omega);have hx2':=hxw.cell (j:=2) rfl;have hxf:=hxw.free 2;have HXW:=Lib.hid hxw;clear hxw hx2 hx0)
   go_wp2
   go_roundw
   case rel=>
    have hsz2:=hg2.chg.size
    simp at hsz2
    have hchA:Chg Nil wr ((wr.alloc (.cells (Rec.cells ⟨base+k,rt,rk,rkey,rg,rval⟩).toArray 37)).alloc (.cells (Rec.cells ⟨base+k,rt,rk,rkey,rg,rval⟩).toArray 37)):=((Chg.refl Nil _).alloc _).alloc _
    have hv2:∀ b,(Value.slice x2 n2 c2).ownBlock=some b→gx<b:=by
     intro b hb;rcases hg2.own b hb with h | h
     ·exact hvb b h
     ·simp at h;omega
    have hset:Chg (fun i=>i=gx) w2 (w2.setCell ⟨gx,2,none⟩ (.slice x2 n2 c2)):=(Chg.refl (fun i=>i=gx) _).setCell (.inl rfl) _
    have hup:Chg Nil w1 w2:=(hch.trans hchA (fun _ h=>.inl h)).trans hg2.chg (fun i hi=>.inr (by have:=hvb i hi;have:=HGX.out;omega))
    refine⟨k+1,.slice x2 n2 c2,by omega,by go_num,HXW.out.set 2 _,?_,hv2,hup.trans hset (fun i hi=>.inr (by have:=HGX.out;omega))⟩
    ·have h:=ownsRow_chg hown2 hset (fun b hb e=>by have:=hv2 b hb;omega)
     unfold OwnR;rw[HS.out,List.length_append,List.flatMap_append];simpa using h
   case measure=>simp[intOf];omega
  ·have hkl:k=rs.length:=by omega
   have HTK:Hid (numbered base (rs.take k)=numbered base rs):=by unfold Hid;rw[List.take_of_length_le (by omega)]
   rw[HTK.out] at hown;obtain⟨ua,uc,hue,hrecs,hule⟩:=hown.recs
   rw[Value.slice.injEq] at hue;obtain⟨rfl,rfl,rfl⟩:=hue
   have hnl:(numbered base rs).length=rs.length:=numbered_length base rs
   have HNOK:Hid (∀ r∈numbered base rs,Rec.Ok r):=numbered_ok' (by omega) (by omega) HOK.out
   have HCH:Hid (Chg Nil w wr):=HC1.out.trans hch (fun _ h=>h.elim)
   have HS0:=Lib.hid (HH.out.grow HCH.out)
   have HBX:=Lib.hid hx
   have HRC:=Lib.hid hrecs
   have HOW:=Lib.hid hown
   have HVB:=Lib.hid hvb
   have HGW:Hid (w.heap.size≤gx∧gx<wr.heap.size):=⟨by have:=HC1.out.size;have:=HGX.out;omega,(Array.getElem?_eq_some_iff.1 hx).1⟩
   have HENC:=Lib.hid (encode_any base (base+rs.length) vx (numbered base rs) vc wr (by omega) (by omega) (by unfold maxLen;omega) HNOK.out hrecs)
   have x0:=hx.cell (j:=0) rfl
   have x1:=hx.cell (j:=1) rfl
   have x2:=hx.cell (j:=2) rfl
   clear hx hown hvb hch hkl hk hc hrecs hule;have HNL:=Lib.hid hnl
   have HRB:Hid (∀ x,vx=some x→numbered base rs≠[]→gx<x.block):=fun x hx hne=>by
    rcases HOW.out.2 with ⟨h1,h2⟩ | ⟨g',cap',cur,h1,_⟩
    ·exact absurd (List.eq_nil_of_length_eq_zero h2) hne
    ·rw[Value.slice.injEq] at h1;obtain⟨h1,_⟩:=h1
     rw[hx] at h1;obtain rfl:=Option.some.inj h1
     exact HVB.out g' (by rw[hx];rfl)
   clear hnl;go_wp2_with fail;refine HENC.out.mono ?_
   rintro e w5 ⟨hc5,hpost⟩
   clear hlt;have HC5:Hid (Chg Nil wr w5):=hc5
   have HC05:Hid (Chg Nil w w5):=HCH.out.trans hc5 (fun _ h=>h.elim)
   clear hc5 HENC;rcases hpost with ⟨hne,rfl⟩ | ⟨h0,v1,rfl,hown5,hnew5⟩
   ·have HF:Hid (addLg d g rs=(encErr base (base+rs.length) (numbered base rs),d,g)):=by unfold Hid;rw[HADD.out,if_pos hne]
    have hev:errV 65 (encErr base (base+rs.length) (numbered base rs)) = .iface 65 (.int .i64 (encErr base (base+rs.length) (numbered base rs):Nat)):=if_neg hne
    rw[hev];have HNE:=Lib.hid hne
    clear hev hne x0 x1 x2;obtain⟨ek,hek⟩:∃ ek,encErr base (base+rs.length) (numbered base rs)=ek:=⟨_,rfl⟩
    rw[hek] at HF HNE
    rw[hek];clear hek;go_wp2_with fail;go_ret2;rw[HF.out];refine⟨?_,⟨S,sv,ss,HH.out.nil HC05.out,HN.out.ne,by omega⟩,HC05.out.weak (fun _ h=>h.elim)⟩
    unfold addV;rw[if_neg HNE.out,errD_ne HNE.out]
    rfl
   have HADD1:Hid (addLg d g rs=if 0<g.last.size∧g.most<(g.last.size:Int)+(b.bytes.length:Nat) then (if (rollLg d g).1=0 then putLg (rollLg d g).2.1 (rollLg d g).2.2 b else ((rollLg d g).1,(rollLg d g).2.1,(rollLg d g).2.2.fail (rollLg d g).1)) else putLg d g b):=by unfold Hid;rw[HADD.out,if_neg (by simp[h0])]
   have hbok:Bt.Ok ⟨base,base+rs.length,numbered base rs⟩:=⟨h0,HNOK.out⟩
   have HBOK:=Lib.hid hbok
   have hyl:(encAll base (base+rs.length) (numbered base rs)).length≤6000:=hbok.nums.len
   have hby:b.bytes=encAll base (base+rs.length) (numbered base rs):=by rw[←HBT.out];rfl
   obtain⟨y,hy⟩:∃ y,encAll base (base+rs.length) (numbered base rs)=y:=⟨_,rfl⟩
   rw[hy] at hown5 hyl hby
   rw[hby] at HADD1;obtain⟨a1,c1,hv1,_,_,_⟩:=hown5.val
   subst hv1;have h10:errV 65 (encErr base (base+rs.length) (numbered base rs)) = .nilIface:=by rw[h0];rfl
   have HLA:Hid (∀ w',Chg Nil w w'→Calls Tryz.prog 55 #[.pointer (some ⟨l,0,none⟩)] w' fun e w''=>e = .returned (.pointer (some ⟨(ss[ss.length-1]'(by have:=HN.out.ne;omega)).1,0,none⟩))∧Chg Nil w' w''):=fun w' hw=>llast_any (HH.out.nil hw).t HN.out.ne HN.out.few
   have HSZ:Hid (∀ w',Chg Nil w w'→Calls Tryz.prog 59 #[.pointer (some ⟨(ss[ss.length-1]'(by have:=HN.out.ne;omega)).1,0,none⟩)] w' fun e w''=>e = .returned (.int .i64 (g.last.size:Nat))∧Chg Nil w' w''):=fun w' hw=>by
    have h1:=(HH.out.nil hw).m (ss.length-1) (by have:=HN.out.ne;omega)
    have e1:g.segs[ss.length-1]'(by have:=HH.out.len;have:=HN.out.ne;omega)=g.last:=by rw[HH.out.t.lastSeg HN.out.ne];congr 1;rw[HH.out.len]
    rw[e1] at h1;refine (ssize_any h1).mono ?_
    rintro e w'' ⟨h2,h3⟩
    rw[h3];exact⟨h2,Chg.refl _ _⟩
   obtain⟨q,hq⟩:∃ q,(ss[ss.length-1]'(by have:=HN.out.ne;omega)).1=q:=⟨_,rfl⟩
   rw[hq] at HLA HSZ
   have HSB:Hid (g.last.size≤1000000000):=HN.out.size
   obtain⟨sz,hsz⟩:∃ sz,g.last.size=sz:=⟨_,rfl⟩
   rw[hsz] at HSZ HADD1 HSB
   obtain⟨mo,hmo⟩:∃ mo,g.most=mo:=⟨_,rfl⟩
   rw[hmo] at HADD1;have HBX5:=Lib.hid (HBX.out.chg HC5.out (fun h=>h))
   have HYL:=Lib.hid hyl
   clear hown5 hnew5 hyl hbok hby hy hq hsz x0 x1 x2 h0;go_wp2_with fail;refine (HLA.out w5 HC05.out).mono ?_
   rintro e w6 ⟨rfl,hc6⟩
   have HC56:=Lib.hid hc6
   have HC6:Hid (Chg Nil w w6):=HC05.out.trans hc6 (fun _ h=>h.elim)
   have c2:=(HH.out.nil HC6.out).c.cell (j:=2) rfl
   simp only[hmo] at c2
   clear hc6 hmo h10;go_upto_region 14 with fail;go_cut [70] (fun bv wy=>bv = .bool (decide (0<sz∧mo<(sz:Int)+(y.length:Nat)))∧Chg Nil w6 wy)
   case first=>
    have hwz:wrap64 ((sz:Int)+(y.length:Int))=(sz:Int)+(y.length:Int):=by have:=HSB.out;have:=HYL.out;unfold wrap64;omega
    by_cases hs:0<sz
    ·have hs1:(0:Int)<(sz:Int):=by omega
     have HS1:=Lib.hid hs
     by_cases hm:mo<(sz:Int)+(y.length:Int)
     ·have HM:=Lib.hid hm
      refine wp_region_mono _ (Chg Nil) (by kernel_rfl) (fun _ _ _ h k=>h.trans k (fun _ h=>h.elim)) [[],[0],[1],[2],[3],[3,4],[3],[3,6],[3,5,7],[3],[3,9],[3,10],[3,11],[3,8,12],[3,13]] rfl (by kernel_rfl) (Chg.refl _ _).drew ?_
      ((with_reducible apply Walk.eq);case h=>(intro w2 hw2 N hN;simp only[depM];go_simp;(try go_bits);with_reducible exact hN _ (Chg.refl _ _)))
      (with_reducible apply Walk.eq);case h=>
       intro w2 hw2 N hN;simp only[depM]
       go_simp;refine (HSZ.out w2 (HC6.out.trans hw2 (fun _ h=>h.elim))).mono ?_
       rintro e w5 ⟨rfl,hc5⟩
       exact⟨_,rfl,hN _ hc5⟩
      iterate 3 ((with_reducible apply Walk.eq);case h=>(intro w2 hw2 N hN;simp only[depM];go_simp;(try go_bits);with_reducible exact hN _ (Chg.refl _ _)))
      (with_reducible apply Walk.eq);case h=>
       intro w2 hw2 N hN;simp only[depM]
       go_simp;refine (HSZ.out w2 (HC6.out.trans hw2 (fun _ h=>h.elim))).mono ?_
       rintro e w5 ⟨rfl,hc5⟩
       exact⟨_,rfl,hN _ hc5⟩
      iterate 6 ((with_reducible apply Walk.eq);case h=>(intro w2 hw2 N hN;simp only[depM];go_simp;(try go_bits);with_reducible exact hN _ (Chg.refl _ _)))
      ((with_reducible apply Walk.eq);case h=>(intro w2 hw2 N hN;have hq:=hw2.cell c2 (fun h=>h);simp only[depM];go_simp;with_reducible exact hN _ (Chg.refl _ _)))
      iterate 2 ((with_reducible apply Walk.eq);case h=>(intro w2 hw2 N hN;simp only[depM];go_simp;(try go_bits);with_reducible exact hN _ (Chg.refl _ _)))
      intro w7 hw7;simp only[List.nil_append,List.cons_append,Fin]
      have HW7:=Lib.hid hw7
      clear hw7;go_simp;go_wp2_with fail;go_meet
      case rel=>exact⟨by rw[decide_eq_true ⟨HS1.out,HM.out⟩],HW7.out⟩
     ·have HM:=Lib.hid hm
      refine wp_region_mono _ (Chg Nil) (by kernel_rfl) (fun _ _ _ h k=>h.trans k (fun _ h=>h.elim)) [[],[0],[1],[2],[3],[3,4],[3],[3,6],[3,5,7],[3],[3,9],[3,10],[3,11],[3,8,12],[3,13]] rfl (by kernel_rfl) (Chg.refl _ _).drew ?_
      ((with_reducible apply Walk.eq);case h=>(intro w2 hw2 N hN;simp only[depM];go_simp;(try go_bits);with_reducible exact hN _ (Chg.refl _ _)))
      (with_reducible apply Walk.eq);case h=>
       intro w2 hw2 N hN;simp only[depM]
       go_simp;refine (HSZ.out w2 (HC6.out.trans hw2 (fun _ h=>h.elim))).mono ?_
       rintro e w5 ⟨rfl,hc5⟩
       exact⟨_,rfl,hN _ hc5⟩
      iterate 3 ((with_reducible apply Walk.eq);case h=>(intro w2 hw2 N hN;simp only[depM];go_simp;(try go_bits);with_reducible exact hN _ (Chg.refl _ _)))
      (with_reducible apply Walk.eq);case h=>
       intro w2 hw2 N hN;simp only[depM]
       go_simp;refine (HSZ.out w2 (HC6.out.trans hw2 (fun _ h=>h.elim))).mono ?_
       rintro e w5 ⟨rfl,hc5⟩
       exact⟨_,rfl,hN _ hc5⟩
      iterate 6 ((with_reducible apply Walk.eq);case h=>(intro w2 hw2 N hN;simp only[depM];go_simp;(try go_bits);with_reducible exact hN _ (Chg.refl _ _)))
      ((with_reducible apply Walk.eq);case h=>(intro w2 hw2 N hN;have hq:=hw2.cell c2 (fun h=>h);simp only[depM];go_simp;with_reducible exact hN _ (Chg.refl _ _)))
      iterate 2 ((with_reducible apply Walk.eq);case h=>(intro w2 hw2 N hN;simp only[depM];go_simp;(try go_bits);with_reducible exact hN _ (Chg.refl _ _)))
      intro w7 hw7;simp only[List.nil_append,List.cons_append,Fin]
      have HW7:=Lib.hid hw7
      clear hw7;go_simp;go_wp2_with fail;go_meet
      case rel=>exact⟨by rw[decide_eq_false (fun h=>by have:=h.2;have:=HM.out;omega)],HW7.out⟩
    ·obtain rfl:sz=0:=by omega
     refine wp_region_mono _ (Chg Nil) (by kernel_rfl) (fun _ _ _ h k=>h.trans k (fun _ h=>h.elim)) [[],[0],[1],[2],[3],[3,4],[3],[3,6],[3,5,7],[3],[3,9],[3,10],[3,11],[3,8,12],[3,13]] rfl (by kernel_rfl) (Chg.refl _ _).drew ?_
     ((with_reducible apply Walk.eq);case h=>(intro w2 hw2 N hN;simp only[depM];go_simp;(try go_bits);with_reducible exact hN _ (Chg.refl _ _)))
     (with_reducible apply Walk.eq);case h=>
      intro w2 hw2 N hN;simp only[depM]
      go_simp;refine (HSZ.out w2 (HC6.out.trans hw2 (fun _ h=>h.elim))).mono ?_
      rintro e w5 ⟨rfl,hc5⟩
      exact⟨_,rfl,hN _ hc5⟩
     iterate 13 ((with_reducible apply Walk.eq);case h=>(intro w2 hw2 N hN;simp only[depM];go_simp;(try go_bits);with_reducible exact hN _ (Chg.refl _ _)))
     intro w7 hw7;simp only[List.nil_append,List.cons_append,Fin]
     have HW7:=Lib.hid hw7
     clear hw7;go_simp;go_wp2_with fail;go_meet
     case rel=>exact⟨by rw[decide_eq_false (fun h=>by omega)],HW7.out⟩
   obtain⟨rfl,hc7⟩:=hcut
   have HC67:=Lib.hid hc7
   have HC7:Hid (Chg Nil w wc):=HC6.out.trans hc7 (fun _ h=>h.elim)
   have HC47:Hid (Chg Nil wr wc):=(HC5.out.trans HC56.out (fun _ h=>h.elim)).trans hc7 (fun _ h=>h.elim)
   have HS7:=Lib.hid (HS0.out.nil HC47.out)
   have HN7:Hid (LgN (fun k=>B k∨(w.heap.size≤k∧k<wr.heap.size)) wc ss g):=⟨HN.out.ne,HN.out.few,HN.out.pls,HN.out.size,HN.out.name,(HN.out.off (HC7.out.weak (fun _ h=>h.elim))).hand,.inl HN.out.hb⟩
   have HT7:=Lib.hid (HT.out.chg HC7.out)
   have HTB7:Hid (TabB (fun k=>B k∨(w.heap.size≤k∧k<wr.heap.size))):=fun m hm k hk=>.inl (HTB.out m hm k hk)
   have HBX7:=Lib.hid ((HBX5.out.chg HC56.out (fun h=>h)).chg HC67.out (fun h=>h))
   have HRC7:Hid (RecsAt wc vx (numbered base rs)):=RecsAt.chg HC47.out HRC.out (fun _ _ h=>h)
   have HZ:Hid (w.heap.size≤wr.heap.size):=HCH.out.size
   have HGX7:Hid (w.heap.size≤gx∧gx<wr.heap.size):=HGW.out
   have HRW:Hid (∀ x,vx=some x→numbered base rs≠[]→x.block<wr.heap.size):=fun x hx hne=>RecsAt.lt HRC.out hne hx
   have HCW:Hid (Chg Nil w wr):=HCH.out
   clear hc7 c2 HC56 HC67 HLA HSZ HC5 HC05 HC6 HBX HBX5;obtain⟨B',hB'⟩:∃ B':Nat→Prop,(fun k=>B k∨(w.heap.size≤k∧k<wr.heap.size))=B':=⟨_,rfl⟩
   have HBB:Hid (∀ k,B k→B' k):=fun k hk=>by rw[←hB'];exact .inl hk
   have HBN:Hid (∀ k,w.heap.size≤k→k<wr.heap.size→B' k):=fun k h1 h2=>by rw[←hB'];exact .inr ⟨h1,h2⟩
   have HBO:Hid (∀ (w1 w2:World),Chg (Off B') w1 w2→w.heap.size≤w1.heap.size→Chg (Off B) w1 w2):=fun w1 w2 hc _=>hc.weak fun k hk=>.inl fun hb=>hk (HBB.out k hb)
   rw[hB'] at HS7 HN7 HTB7
   clear hB' HS0;go_upto_if 70 with fail
   go_cut [70] (fun bv wy=>∃ S1 sv1 ss1 d1 g1,LgS B' wy p l S1 sv1 ss1 d1 g1∧LgN B' wy ss1 g1∧ss1.length≤ss.length+1∧addLg d g rs=putLg d1 g1 b∧Chg (Off B') wc wy)
   case first=>
    by_cases hroll:0<sz∧mo<(sz:Int)+(y.length:Nat)
    ·have hbv:=decide_eq_true hroll
     rw[hbv];have HADD2:Hid (addLg d g rs=if (rollLg d g).1=0 then putLg (rollLg d g).2.1 (rollLg d g).2.2 b else ((rollLg d g).1,(rollLg d g).2.1,(rollLg d g).2.2.fail (rollLg d g).1)):=by unfold Hid;rw[HADD1.out,if_pos hroll]
     have HRO:=Lib.hid (lroll_any HS7.out HN7.out HT7.out HTB7.out HDIR.out base.toNat (by rw[HST.out];omega) (by omega))
     have hrl:=roll_last d g
     obtain⟨⟨rk,d1,g1⟩,hR⟩:∃ R,rollLg d g=R:=⟨_,rfl⟩
     rw[hR] at HRO HADD2 hrl
     have HRL:=Lib.hid hrl
     clear hbv hroll hR hrl HADD1;go_wp2_with fail;refine HRO.out.mono ?_
     rintro e w8 ⟨rfl,⟨S1,sv1,ss1,hs1,hne1,hle1⟩,hc8⟩
     have HS8:=Lib.hid hs1
     have HC8:=Lib.hid hc8
     have HLE:=Lib.hid hle1
     have HN8:Hid (LgN B' w8 ss1 g1):=by
      have h1:=HN7.out.off hc8
      have h2:=HFEW.out
      rcases HRL.out with h3 | h3
      ·exact⟨hne1,by omega,by show g1.last.pls.length≤_;rw[show g1.last=g.last from h3];exact h1.pls,by rw[show g1.last=g.last from h3];exact h1.size,by rw[show g1.last=g.last from h3];exact h1.name,h1.hand,h1.hb⟩
      ·refine⟨hne1,by omega,by rw[show g1.last=_ from h3];exact Nat.zero_le _,by rw[show g1.last=_ from h3];exact Nat.zero_le _,?_,h1.hand,h1.hb⟩
       rw[show g1.last=_ from h3]
       exact segName_len ⟨g.dir.toArray⟩ g.stop.toNat (by show g.dir.toArray.size≤100;simp;exact HDIR.out) (by rw[HST.out];omega)
     clear hs1 hc8 hle1 hne1 HRO HRL;by_cases hrk:rk=0
     ·subst hrk;have hz:errD 0 = .nilIface:=rfl
      rw[hz];have HADD3:Hid (addLg d g rs=putLg d1 g1 b):=by unfold Hid;rw[HADD2.out];exact if_pos rfl
      clear hz;go_wp2_with fail;go_meet
      case rel=>exact⟨S1,sv1,ss1,d1,g1,HS8.out,HN8.out,HLE.out,HADD3.out,HC8.out⟩
     ·have hz:=errD_ne hrk
      rw[hz];have HADD3:Hid (addLg d g rs=(rk,d1,g1.fail rk)):=by unfold Hid;rw[HADD2.out];exact if_neg hrk
      have HFA:=Lib.hid (lfail_any HS8.out HN8.out.hand rk hrk)
      have HRK:=Lib.hid hrk
      clear hz hrk;go_wp2_with fail;refine HFA.out.mono ?_
      rintro e w9 ⟨rfl,hs9,hc9⟩
      have HS9:=Lib.hid hs9
      have HC9:=Lib.hid (HC8.out.trans (HS8.out.offL hc9) (fun k hk=>.inl hk))
      clear hs9 hc9;go_wp2_with fail;go_ret2;rw[HADD3.out];refine⟨?_,⟨S1,sv1,ss1,HS9.out.less HBB.out,HN8.out.ne,HLE.out⟩,?_⟩
      ·unfold addV;rw[if_neg HRK.out,errD_ne HRK.out]
       rfl
      ·exact (HC7.out.weak (fun _ h=>h.elim)).trans (HC9.out.weak fun k hk=>.inl fun hb=>hk (HBB.out k hb)) (fun k hk=>.inl hk)
    ·have hbv:=decide_eq_false hroll
     rw[hbv];have HADD3:Hid (addLg d g rs=putLg d g b):=by unfold Hid;rw[HADD1.out,if_neg hroll]
     clear hbv hroll;go_wp2_with fail;go_meet
     case rel=>exact⟨S,sv,ss,d,g,HS7.out,HN7.out,by omega,HADD3.out,Chg.refl _ _⟩
   obtain⟨S1,sv1,ss1,d1,g1,hs8,hn8,hle8,hadd,hc8⟩:=hcut
   have HS8:=Lib.hid hs8
   have HN8:=Lib.hid hn8
   have HLE:=Lib.hid hle8
   have HADD4:=Lib.hid hadd
   have HC8:=Lib.hid hc8
   have HBX8:=Lib.hid (HBX7.out.chg hc8 (fun h=>h (HBN.out gx HGX7.out.1 HGX7.out.2)))
   have HRC8:Hid (RecsAt wc vx (numbered base rs)):=RecsAt.chg' HRC7.out hc8 (fun hne x hx hn=>hn (HBN.out x.block (by have h1:=HRB.out x hx hne;have h2:=HGX7.out.1;omega) (HRW.out x hx hne)))
   have HL8:Hid (∀ w2,LgS B' w2 p l S1 sv1 ss1 d1 g1→Calls Tryz.prog 55 #[.pointer (some ⟨l,0,none⟩)] w2 fun e w'=>e = .returned (.pointer (some ⟨(ss1[ss1.length-1]'(by have:=HN8.out.ne;omega)).1,0,none⟩))∧Chg Nil w2 w'):=fun w2 h2=>llast_any h2.t HN8.out.ne HN8.out.few
   obtain⟨A,hA⟩:∃ A,addSg d1 g1.last b.base b.en b.rs=A:=⟨_,rfl⟩
   have HAA:=Lib.hid hA
   have HAD:Hid (∀ w2,LgS B' w2 p l S1 sv1 ss1 d1 g1→RecsAt w2 vx (numbered base rs)→Calls Tryz.prog 62 #[.pointer (some ⟨(ss1[ss1.length-1]'(by have:=HN8.out.ne;omega)).1,0,none⟩),.agg #[.int .i64 base,.int .i64 (base+rs.length),.slice vx (numbered base rs).length vc]] w2 fun e w'=>
     e = .returned (errD A.1)∧(∃ S' ss',LgS B' w' p l S' sv1 ss' A.2.1 { g1 with segs:=g1.segs.set (g1.segs.length-1) A.2.2 }∧ss'.length=ss1.length)∧Chg (Off (BofI B' l sv1 ss1 (ss1.length-1))) w2 w'):=fun w2 h2 hrc=>by
    have hne:=HN8.out.ne
    have hlen:=h2.len
    have e1:g1.segs[ss1.length-1]'(by omega)=g1.last:=by rw[h2.t.lastSeg hne];congr 1;rw[hlen]
    have hsg:=h2.seg (ss1.length-1) (by omega)
    rw[e1] at hsg;have hnl2:=HNL.out
    have h3:=sadd_any hsg HN8.out.name HN8.out.pls HN8.out.size base (base+rs.length) vx (numbered base rs) vc (by omega) (by omega) (by omega) HNOK.out hrc (fun hne x hx hs=>(h2.sl _ hs).1 (HBN.out x.block (by have h1:=HRB.out x hx hne;have h2:=HGX7.out.1;omega) (HRW.out x hx hne))) (fun _=>HBOK.out.nums.len)
    have hA':addSg d1 g1.last base (base+rs.length) (numbered base rs)=A:=by rw[←HAA.out,←HBT.out]
    rw[hA'] at h3;refine h3.mono ?_
    rintro e w' ⟨he,⟨S',v',h4⟩,h5⟩
    have h6:=h2.back (i:=ss1.length-1) (by omega) h4 h5
    have hls:(ss1.set (ss1.length-1) ((ss1[ss1.length-1]'(by omega)).1,v')).length=ss1.length:=List.length_set
    exact⟨he,⟨S',ss1.set (ss1.length-1) ((ss1[ss1.length-1]'(by omega)).1,v'),by rw[←hlen];exact h6,hls⟩,h5⟩
   obtain⟨q1,hq1⟩:∃ q1,(ss1[ss1.length-1]'(by have:=HN8.out.ne;omega)).1=q1:=⟨_,rfl⟩
   rw[hq1] at HL8 HAD
   have x0:=HBX8.out.cell (j:=0) rfl
   have x1:=HBX8.out.cell (j:=1) rfl
   have x2:=HBX8.out.cell (j:=2) rfl
   have HGB:Hid (BofI B' l sv1 ss1 (ss1.length-1) gx):=.inl (HBN.out gx HGX7.out.1 HGX7.out.2)
   have HRO:Hid (∀ w2,Chg (Off (BofI B' l sv1 ss1 (ss1.length-1))) wc w2→RecsAt w2 vx (numbered base rs)):=fun w2 hw=>RecsAt.chg' HRC8.out hw (fun hne x hx hn=>hn (.inl (HBN.out x.block (by have h1:=HRB.out x hx hne;have h2:=HGX7.out.1;omega) (HRW.out x hx hne))))
   clear hs8 hn8 hle8 hadd hc8 hA hq1 HADD1 HADD;go_upto_region 18 with fail;refine Ch.wp_region_chain _ (Chg (Off (BofI B' l sv1 ss1 (ss1.length-1)))) [1,3] (LaF B' p l q1 S1 sv1 ss1 d1 g1 A) (by kernel_rfl) (fun _=>Chg.refl _ _) (fun _ _ _ h k=>h.trans k (fun _ h=>.inl h)) [[],[0],[],[1,2],[3]] rfl (by kernel_rfl) (by kernel_rfl) (Chg.refl _ _).drew ?_ ?_
   ·exact HS8.out.nil (Chg.refl Nil _).drew
   ((with_reducible apply Ch.Walk.eq);(case hd=>rfl);(case hi=>rfl);case h=>(intro w2 hw2 N hN;simp only[Ch.depB];go_simp;(try go_bits);with_reducible exact hN _ (Chg.refl _ _) (fun _ h=>h)))
   refine Ch.Walk.chainE 0 (c:=.pointer (some ⟨q1,0,none⟩)) rfl rfl ?_ ?_
   ·intro w2 hw2 vs hvs hF N hN;obtain rfl:=List.eq_nil_of_length_eq_zero hvs
    have F3:LgS B' w2 p l S1 sv1 ss1 d1 g1:=hF
    have HF3:=Lib.hid F3
    clear F3 hF;simp only[Ch.depB,Ch.depC,Nat.reduceBEq,Nat.reduceAdd]
    go_simp;refine (HL8.out w2 HF3.out).mono ?_
    rintro e w7 ⟨rfl,hc7⟩
    exact⟨_,rfl,hN _ (hc7.weak (fun _ h=>h.elim)) ⟨rfl,HF3.out.nil hc7⟩⟩
   simp only[List.nil_append,List.cons_append]
   ((with_reducible apply Ch.Walk.eq);(case hd=>rfl);(case hi=>rfl);case h=>(intro w2 hw2 N hN;(have hq0:=hw2.cell x0 (fun hn=>hn HGB.out);have hq1:=hw2.cell x1 (fun hn=>hn HGB.out);have hq2:=hw2.cell x2 (fun hn=>hn HGB.out));simp only[Ch.depB];go_simp;(try go_bits);with_reducible exact hN _ (Chg.refl _ _) (fun _ h=>h)))
   simp only[List.nil_append,List.cons_append]
   refine Ch.Walk.chainE 1 (c:=errD A.1) rfl rfl ?_ ?_
   ·intro w2 hw2 vs hvs hF N hN;obtain⟨x,rfl⟩:=List.length_eq_one_iff.1 hvs
    have F2:x = .pointer (some ⟨q1,0,none⟩)∧LgS B' w2 p l S1 sv1 ss1 d1 g1:=hF
    obtain⟨rfl,F3⟩:=F2
    have HF3:=Lib.hid F3
    have HR3:=Lib.hid (HRO.out w2 hw2)
    clear F3 hF;simp only[Ch.depB,Ch.depC,Nat.reduceBEq,Nat.reduceAdd]
    go_simp;refine (HAD.out w2 HF3.out HR3.out).mono ?_
    rintro e w7 ⟨rfl,h2,h3⟩
    exact⟨_,rfl,hN _ h3 h2⟩
   ((with_reducible apply Ch.Walk.eq);(case hd=>rfl);(case hi=>rfl);case h=>(intro w2 hw2 N hN;simp only[Ch.depB];go_simp;(try go_bits);with_reducible exact hN _ (Chg.refl _ _) (fun _ h=>h)))
   intro w10 hw10;simp only[List.nil_append,List.cons_append,Ch.Fin,List.map_cons,List.map_nil,List.getD_cons_zero,List.getD_cons_succ]
   intro hF;have HF:=Lib.hid hF
   have HW10:=Lib.hid (offI hw10)
   have HBX10:=Lib.hid (HBX8.out.chg hw10 (fun hn=>hn HGB.out))
   clear hF hw10 x0 x1 x2 HAD HL8 HRO;obtain⟨S2,ss2,h9,hl2⟩:=HF.out
   have H9:=Lib.hid h9
   have HL2:=Lib.hid hl2
   have HCF:Hid (∀ w',Chg (Off B') w10 w'→Chg (Off B) w w'):=fun w' hw=>(HC7.out.weak (fun _ h=>h.elim)).trans (((HC8.out.trans HW10.out (fun k hk=>.inl hk)).trans hw (fun k hk=>.inl hk)).weak fun k hk=>.inl fun hb=>hk (HBB.out k hb)) (fun k hk=>.inl hk)
   have HNE2:Hid (0<ss2.length∧ss2.length≤ss.length+1):=by have h1:=HN8.out.ne;have h2:=HLE.out;exact⟨by omega,by omega⟩
   clear h9 hl2 HF;by_cases hr:A.1=0
   ·have HPU:Hid (addLg d g rs=(0,A.2.1,{ g1 with segs:=g1.segs.set (g1.segs.length-1) A.2.2 })):=by unfold Hid;rw[HADD4.out,putLg_ok HAA.out hr]
    have hev:errD A.1 = .nilIface:=by rw[hr];rfl
    rw[hev];have x0:=HBX10.out.cell (j:=0) rfl
    clear hev hr;go_simp;go_wp2_with fail;go_ret2;rw[HPU.out];exact⟨rfl,⟨S2,sv1,ss2,H9.out.less HBB.out,HNE2.out⟩,HCF.out _ (Chg.refl _ _)⟩
   ·have HPU:Hid (addLg d g rs=(A.1,A.2.1,({ g1 with segs:=g1.segs.set (g1.segs.length-1) A.2.2 }:Lg).fail A.1)):=by unfold Hid;rw[HADD4.out,putLg_no HAA.out hr]
    have hev:errD A.1 = .iface 65 (.int .i64 (A.1:Nat)):=errD_ne hr
    rw[hev];have HRR:=Lib.hid hr
    have HFA:=Lib.hid (lfail_any H9.out (HN8.out.off HW10.out).hand A.1 hr)
    obtain⟨ak,hak⟩:∃ ak,A.1=ak:=⟨_,rfl⟩
    rw[hak] at HFA HRR HPU
    rw[hak];clear hev hr hak;go_simp;go_wp2_with fail;refine HFA.out.mono ?_
    rintro e w11 ⟨rfl,hs11,hc11⟩
    have HS11:=Lib.hid hs11
    have HC11:=Lib.hid (H9.out.offL hc11)
    clear hs11 hc11 HFA;go_wp2_with fail;go_ret2;rw[HPU.out];refine⟨?_,⟨S2,sv1,ss2,HS11.out.less HBB.out,HNE2.out⟩,HCF.out _ HC11.out⟩
    unfold addV;rw[if_neg HRR.out,errD_ne HRR.out]
    rfl
end Go.Proofs.YtdjmifaidgbbaaaGreatDoor
