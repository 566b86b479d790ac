/-
  A partition's log is opened, whatever its beginning is. (Of the topics' seat.)
-/
import Derived.Test.YtobegmcbfgnpnaaGreatDoorU42
set_option linter.unusedVariables false
set_option linter.unusedSimpArgs false
set_option maxHeartbeats 0
set_option maxRecDepth 200000
namespace Go.Proofs.YtobegmcbfgnpnaaGreatDoor
open Go.RowKit Go.Lib Go.Shelf
theorem lopen_late {w:World} (p:Nat) (dir:ByteArray) (most:Int) (hm:100≤most∧most≤1048576) (start:Int) (hs:1099511627776<start) :
  Calls Tryz.prog 65 #[.pointer (some ⟨p,0,none⟩),.string dir,.int .i64 most,.int .i64 start] w fun e w'=>e = .returned (.tuple #[.pointer none,errD 2])∧w=w':=by
 have h1:¬most<100:=by omega
 have h2:¬(1048576:Int)<most:=by omega
 have h3:¬start<0:=by omega
 go_enter Tryz.func65,Tryz.ntmps65
 go_wp2_with fail;go_ret2;exact⟨rfl,rfl⟩
def POpenAt (B:Nat→Prop) (w w':World) (p:Nat) (R:Nat×Dk) (e:Ending):Prop:=
 Chg (Off B) w w'∧
 ((R.1=0∧∃ l S',e = .returned (.tuple #[.pointer (some ⟨l,0,none⟩),.nilIface])∧DsS B w' p S' R.2)∨
  (R.1≠0∧∃ S',e = .returned (.tuple #[.pointer none,errD R.1])∧DsS B w' p S' R.2))
theorem popen_any {B:Nat→Prop}{w:World}{p:Nat}{S:Nat→Prop}{d:Dk}(h:DsS B w p S d)(hT:TabE w)(hTB:TabEB B) (n:List UInt8)(hn:n.length≤10) (k:Nat)(hk:k≤100000) (most:Int)(hm:100≤most∧most≤1048576) (start:Int)(h0:0≤start)(hE:EmptyD d) :
  Calls Tryz.prog 65 #[.pointer (some ⟨p,0,none⟩),.string ⟨(dirOf n k).toArray⟩,.int .i64 most,.int .i64 start] w fun e w'=>POpenAt B w w' p (openOne most n k start d) e:=by
 by_cases hs:1099511627776<start
 ·refine (lopen_late p _ most hm start hs).mono ?_
  rintro e w' ⟨rfl,rfl⟩
  have e1:openOne most n k start d=(2,d):=if_pos hs
  rw[e1];exact⟨Chg.refl _ _,.inr ⟨(fun h=>by cases h),S,rfl,h⟩⟩
 ·obtain⟨s,rfl⟩:∃ s:Nat,start=(s:Int):=⟨start.toNat,by omega⟩
  have hdl:(dirOf n k).length≤100:=by
   have h1:(decDigits k).length≤6:=dec_len 5 k (by omega)
   unfold dirOf;rw[List.length_append,List.length_cons];omega
  have e1:openOne most n k s d=((openLg noB (dirOf n k) most s d).1,(openLg noB (dirOf n k) most s d).2.1):=if_neg hs
  rw[e1];refine (lopen_any h hT hTB (dirOf n k) hdl most hm s (by omega) noB hE.fd).mono ?_
  rintro e w' ⟨hc,h1 | h1⟩
  ·obtain⟨hz,l,S',sv,ss,rfl,hl,hL⟩:=h1
   exact⟨hc,.inl ⟨hz,l,S',rfl,hL.dsB (fun _ h=>h)⟩⟩
  ·obtain⟨hz,S',rfl,hD⟩:=h1
   exact⟨hc,.inr ⟨hz,S',rfl,hD⟩⟩
theorem listT_small {text:List UInt8}{ts:List Tp}(h:listT (linesOf text)=some ts):∀ t∈ts,t.name.length≤10∧t.starts.length≤text.length+1∧∀ v∈t.starts,0≤v:=by
 intro t ht;obtain⟨line,hl,hlt⟩:=(listT_each h).2 t ht
 obtain⟨n,c,r,e,hn,hc,hr,hnm⟩:=lineT_parts hlt
 refine⟨?_,?_,fun v hv=>?_⟩
 ·rw[hnm];unfold nameOk at hn;simp only[Bool.and_eq_true,decide_eq_true_eq] at hn
  exact hn.1.2
 ·have h1:=numsT_len hr
  have h2:=cutAt_len (c:=32) line
  have h3:=cutAt_piece (linesV_mem hl)
  rw[e] at h2;simp only[List.length_cons] at h2
  omega
 ·obtain⟨x,hx,hxv⟩:=(numsT_each hr).2 v hv
  exact numT_pos hxv
theorem linesV_len:∀ ps:List (List UInt8),(linesV ps).length≤ps.length
 | []=>Nat.le_refl _
 | [p]=>by
  show (if p=[] then [] else [p]:List (List UInt8)).length≤1
  split<;>simp
 | p::q::r=>by
  have h:=linesV_len (q::r)
  show (p::linesV (q::r)).length≤_
  simp only[List.length_cons] at h ⊢
  omega
theorem listT_count {text:List UInt8}{ts:List Tp}(h:listT (linesOf text)=some ts):ts.length≤text.length+1:=by
 have h1:=listT_len h
 have h2:=linesV_len (cutAt 10 text)
 have h3:=cutAt_len (c:=10) text
 have h4:(linesOf text).length≤(cutAt 10 text).length:=h2
 omega
def MkL (v:Value) (_:World):Prop:=∃ l,v = .tuple #[.pointer (some ⟨l,0,none⟩),.nilIface]
def vPt:Value→Nat | .pointer (some a)=>a.block | _=>0
def PtL (v:Value) (_:World):Prop:=∃ l,v = .pointer (some ⟨l,0,none⟩)
def PoF (Bx:Nat→Prop) (p:Nat) (S:Nat→Prop) (d d':Dk):List Value→World→Prop
 | [],w=>DsS Bx w p S d
 | _::_,w=>∃ S',DsS Bx w p S' d'
theorem PoF.nil {Bx:Nat→Prop}{p:Nat}{S:Nat→Prop}{d d':Dk}{w w':World}(hc:Chg Nil w w'):∀ vs,PoF Bx p S d d' vs w→PoF Bx p S d d' vs w'
 | [],h=>DsS.nil h hc
 | _::_,⟨S',h⟩=>⟨S',h.nil hc⟩
theorem OwnV.val {w:World}{v:Value}{l:List Value}(h:OwnV w v l):∃ a cap,v = .slice a l.length cap∧l.length≤cap∧∀ i (h:i<l.length),∃ g,v.ownBlock=some g∧a=some ⟨g,0,none⟩∧w.cell? ⟨g,i,none⟩=some l[i]:=by
 rcases h.2 with ⟨rfl,hn⟩ | ⟨g,cap,cur,rfl,_,_,hle,_⟩
 ·exact⟨none,0,by rw[hn],by omega,fun i hi=>absurd hi (by omega)⟩
 ·have e1:∀ j,(⟨g,0,none⟩:Addr).add j=⟨g,j,none⟩:=fun j=>by unfold Addr.add;split<;>simp_all
  refine⟨some ⟨g,0,none⟩,cap,rfl,hle,fun i hi=>⟨g,rfl,rfl,?_⟩⟩
  have:=World.ownsRow.cells h (g:=g) rfl i l[i] (List.getElem?_eq_getElem hi)
  rwa [e1] at this
def OwnLg (w:World) (v:Value) (ls:List Nat):Prop:=w.ownsRow 0 55 1 v ls.length (ls.map fun b=>Value.pointer (some ⟨b,0,none⟩))
theorem lgT:SliceT Tryz.prog 124 55 1 8:=
 ⟨Tryz.underlying124,by
  have h:(Tryz.prog.info? 55).map (fun i=>(i.zero,i.size,i.bytes))=some (some (.pointer none),1,8):=by kernel_rfl
  obtain⟨i,hi,hz,h1,h2⟩:=info_parts h
  exact⟨i,_,hi,hz,rfl,h1,h2⟩⟩
structure TI (n9:Nat) (Bx:Nat→Prop) (w:World) (st p cc:Nat) (most age byt:Int) (va sv:Value) (es:List Nat) (vs:List Value) (ts:List Tp) (i:Nat) (S:Nat→Prop) (d:Dk):Prop where
 box:Box w st [.pointer (some ⟨p,0,none⟩),.int .i64 most,.int .i64 age,.int .i64 byt,va,.bool false] 118
 cfg:Box w cc [.int .i64 most,.int .i64 age,.int .i64 byt] 37
 row:OwnE w va es
 len:es.length=ts.length
 nd:es.Nodup
 vrow:OwnV w sv vs
 vlen:vs.length=ts.length
 vz:∀ j (h:j<vs.length)(h':j<ts.length),OwnZ w vs[j] ts[j].starts
 ent:∀ j (h:j<es.length)(h':j<ts.length),∃ lv,Box w es[j] (ts[j].cells lv) 126
 new:∀ j (h:j<es.length)(h':j<ts.length),i≤j→Box w es[j] (ts[j].cells (.slice none 0 0)) 126
 bs:Bx st
 bc:Bx cc
 bva:∀ b,va.ownBlock=some b→Bx b
 bsv:∀ b,sv.ownBlock=some b→Bx b
 bvz:∀ j (h:j<vs.length) b,vs[j].ownBlock=some b→Bx b
 bes:∀ j (h:j<es.length),Bx es[j]
 ds:DsS Bx w p S d
 tab:TabE w
 tb:TabEB Bx
 te:TabEB (fun g=>g<n9)
 ge:∀ j (h:j<es.length),n9≤es[j]
theorem TI.chg {n9:Nat}{Bx:Nat→Prop}{w w':World}{st p cc:Nat}{most age byt:Int}{va sv:Value}{es:List Nat}{vs:List Value}{ts:List Tp}{i:Nat}{S S':Nat→Prop}{d d':Dk}(h:TI n9 Bx w st p cc most age byt va sv es vs ts i S d)(hc:Chg (Off Bx) w w')(hd:DsS Bx w' p S' d'):TI n9 Bx w' st p cc most age byt va sv es vs ts i S' d':=
 ⟨h.box.chg hc (fun ho=>ho h.bs),h.cfg.chg hc (fun ho=>ho h.bc),ownsRow_chg h.row hc (fun b hb ho=>ho (h.bva b hb)),h.len,h.nd,ownsRow_chg h.vrow hc (fun b hb ho=>ho (h.bsv b hb)),h.vlen,
  fun j hj hj'=>(h.vz j hj hj').chg hc (fun b hb ho=>ho (h.bvz j hj b hb)),fun j hj hj'=>(h.ent j hj hj').imp fun lv hb=>hb.chg hc (fun ho=>ho (h.bes j hj)),fun j hj hj' hij=>(h.new j hj hj' hij).chg hc (fun ho=>ho (h.bes j hj)),
  h.bs,h.bc,h.bva,h.bsv,h.bvz,h.bes,hd,h.tab.offB h.tb hc,h.tb,h.te,h.ge⟩
theorem DsS.growB {B T:Nat→Prop}{w w':World}{p:Nat}{S:Nat→Prop}{d:Dk}(h:DsS B w p S d)(hc:Chg T w w')(hT:∀ k,T k→B k):DsS (fun k=>B k∨(w.heap.size≤k∧k<w'.heap.size)) w' p S d:=by
 have hz:=hc.size
 refine⟨fun k hk=>?_,h.a.chg hc (fun k hk ht=>(h.sl k hk).1 (hT k ht)),fun k hk=>⟨?_,by have:=(h.sl k hk).2;omega⟩⟩
 ·rcases hk with hk | hk
  ·have:=h.lo k hk;omega
  ·exact hk.2
 ·rintro (hb | hb)
  ·exact (h.sl k hk).1 hb
  ·have:=(h.sl k hk).2;omega
theorem TI.put {n9:Nat}{Bk T:Nat→Prop}{w w':World}{st p cc:Nat}{most age byt:Int}{va sv:Value}{es:List Nat}{vs:List Value}{ts:List Tp}{i:Nat}{S:Nat→Prop}{d:Dk}{q:Nat}{t:Tp}{lv v2:Value}{ls:List Nat}
  (h:TI n9 Bk w st p cc most age byt va sv es vs ts (i+1) S d)(hq:es[i]? = some q)(ht:ts[i]? = some t)(hlv:Box w q (t.cells lv) 126)(hown:OwnLg w lv ls)(hob:∀ b,lv.ownBlock=some b→Bk b∧n9≤b)
  (hc:Chg T w w')(hT:∀ b,T b→lv.ownBlock=some b∨b=q)(hbox:Box w' q (t.cells v2) 126) :
  TI n9 (fun b=>Bk b∨(w.heap.size≤b∧b<w'.heap.size)) w' st p cc most age byt va sv es vs ts (i+1) S d:=by
 obtain⟨hie,heE⟩:=List.getElem?_eq_some_iff.1 hq
 obtain⟨hit,htE⟩:=List.getElem?_eq_some_iff.1 ht
 have hTB:∀ b,T b→Bk b:=fun b hb=>by
  rcases hT b hb with hb | rfl
  ·exact (hob b hb).1
  ·rw[←heE];exact h.bes i hie
 have nb:∀ {x:Nat}{cs:List Value}{ty:TypeId},Box w x cs ty→ty≠55→x≠q→¬T x:=fun hb h1 h2 hx=>by
  rcases hT _ hx with hx | hx
  ·exact box_row_ne' hb hown h1 hx
  ·exact h2 hx
 have nr:∀ {v:Value}{e:TypeId}{sz n:Nat}{xs:List Value},w.ownsRow 0 e sz v n xs→e≠55→126≠e→∀ b,v.ownBlock=some b→¬T b:=fun hr h1 h2 b hb hx=>by
  rcases hT _ hx with hx | rfl
  ·exact rows_ne hr hown h1 hb hx
  ·exact box_row_ne' hlv hr h2 hb
 have ne:∀ j (hj:j<es.length),j≠i→es[j]≠q:=fun j hj hji e=>by
  rw[←heE] at e;exact hji ((List.getElem_inj h.nd).1 e)
 refine⟨h.box.chg hc (nb h.box (by decide) (box_ne h.box hlv (by decide))),h.cfg.chg hc (nb h.cfg (by decide) (box_ne h.cfg hlv (by decide))),ownsRow_chg h.row hc (nr h.row (by decide) (by decide)),h.len,h.nd,ownsRow_chg h.vrow hc (nr h.vrow (by decide) (by decide)),h.vlen,
  fun j hj hj'=>(h.vz j hj hj').chg hc (nr (h.vz j hj hj') (by decide) (by decide)),fun j hj hj'=>?_,fun j hj hj' hij=>?_,.inl h.bs,.inl h.bc,fun b hb=>.inl (h.bva b hb),fun b hb=>.inl (h.bsv b hb),fun j hj b hb=>.inl (h.bvz j hj b hb),fun j hj=>.inl (h.bes j hj),
  h.ds.growB hc hTB,h.tab.off hc (fun m hm g hg hx=>?_),fun m hm g hg=>.inl (h.tb m hm g hg),h.te,h.ge⟩
 ·by_cases hji:j=i
  ·subst hji;refine⟨v2,?_⟩
   rw[heE,htE];exact hbox
  ·obtain⟨l2,h2⟩:=h.ent j hj hj'
   exact⟨l2,h2.chg hc (nb h2 (by decide) (ne j hj hji))⟩
 ·have h2:=h.new j hj hj' hij
  exact h2.chg hc (nb h2 (by decide) (ne j hj (by omega)))
 ·have h1:=h.te m hm g hg
  rcases hT _ hx with hx | hx
  ·have h2:=(hob _ hx).2
   omega
  ·have h2:=h.ge i hie
   rw[heE] at h2;omega
def TOpenAt (B:Nat→Prop) (w w':World) (p:Nat) (most:Int) (text:List UInt8) (d:Dk) (e:Ending):Prop:=
 match listT (linesOf text) with
 | none=>e = .returned (.tuple #[.pointer none,errD 15])
 | some ts=>((topsGo most ts d).1=0∧∃ st c1 c2 c3 va es,e = .returned (.tuple #[.pointer (some ⟨st,0,none⟩),.nilIface])∧StT w' st p c1 c2 c3 va (.bool false) es ts)∨
  ((topsGo most ts d).1≠0∧e = .returned (.tuple #[.pointer none,errD (topsGo most ts d).1]))
theorem topen_any {B:Nat→Prop} {w:World} {p:Nat} {S:Nat→Prop} {d:Dk} (h:DsS B w p S d) (hT:TabE w) (hTB:TabEB B) (hM:MaxL w) (hMB:B 5) (hE:EmptyD d) {text:List UInt8} {sf:Nat} (hf:d.find topicsN=some ⟨text,sf⟩) (hlen:text.length≤2000) (hls:d.list []=[topicsN])
  (most age byt:Int) (hm:100≤most∧most≤1048576) :
  Calls Tryz.prog 10 #[.pointer (some ⟨p,0,none⟩),.agg #[.int .i64 most,.int .i64 age,.int .i64 byt]] w fun e w'=>Chg (Off B) w w'∧TOpenAt B w w' p most text d e:=by
 have h1:¬most<100:=by omega
 have h2:¬(1048576:Int)<most:=by omega
 have HH:=Lib.hid h
 have HT:=Lib.hid hT
 have HTB:=Lib.hid hTB
 have HM:=Lib.hid hM
 have HMB:=Lib.hid hMB
 have HE:=Lib.hid hE
 have HF:=Lib.hid hf
 have HLS:=Lib.hid hls
 have HMO:=Lib.hid hm
 have HLEN:=Lib.hid hlen
 have HSI:Hid (∀ w',Chg Nil w w'→Calls Tryz.prog 52 #[.pointer (some ⟨p,0,none⟩),.string ⟨topicsN.toArray⟩] w' fun e w''=>e = .returned (.int .i64 (text.length:Nat))∧w'=w''):=fun w' hw=>by
  have h3:=size_any (h.nil hw).a ⟨topicsN.toArray⟩ (by decide)
  have e:d.size (ByteArray.mk topicsN.toArray).data.toList=(text.length:Nat):=by
   show d.size topicsN=_
   unfold Dk.size;rw[hf]
  rw[e] at h3;exact h3
 obtain⟨n,hn⟩:∃ n,text.length=n:=⟨_,rfl⟩
 rw[hn] at HSI hlen
 have HNN:=Lib.hid hn
 have HRD:Hid (∀ w',Chg Nil w w'→Calls Tryz.prog 61 #[.pointer (some ⟨p,0,none⟩),.string ⟨topicsN.toArray⟩,.int .i64 0,.int .i64 (n:Nat)] w' fun e w''=>∃ a c,e = .returned (.slice a text.length c)∧BytesAt w'' a text∧Chg Nil w' w''):=fun w' hw=>by
  refine (read_any (h.nil hw).a ⟨topicsN.toArray⟩ (by decide) 0 (n:Nat)).mono ?_
  rintro e w'' ⟨v,rfl,⟨a,c,rfl,hb,_⟩,hc⟩
  have e2:d.read (ByteArray.mk topicsN.toArray).data.toList 0 (n:Nat)=text:=by
   show d.read topicsN 0 _=_
   unfold Dk.read;rw[hf];show readOf text 0 _=_
   unfold readOf;rw[←hn];by_cases hz:text.length=0
   ·rw[List.length_eq_zero_iff.1 hz];simp
   ·rw[if_neg (by omega)]
    simp
  rw[e2] at hb ⊢
  exact⟨a,c,rfl,hb,hc⟩
 have hn3:(n:Int)≤2000:=by omega
 clear h hT hTB hM hMB hE hf hls hm hlen hn;go_enter Tryz.func10,Tryz.ntmps10
 go_upto_region 5 with fail;obtain⟨cc,hcc⟩:∃ cc,w.heap.size=cc:=⟨_,rfl⟩
 obtain⟨st,hst⟩:∃ st,cc+1=st:=⟨_,rfl⟩
 obtain⟨w1,hw1⟩:∃ w1,(w.alloc (.cells #[.int .i64 most,.int .i64 age,.int .i64 byt] 37)).alloc (.cells #[.pointer (some ⟨p,0,none⟩),.int .i64 most,.int .i64 age,.int .i64 byt,.slice none 0 0,.bool false] 118)=w1:=⟨_,rfl⟩
 have hz1:w1.heap.size=cc+2:=by rw[←hw1,World.size_alloc,World.size_alloc,hcc]
 have hc1:Chg Nil w w1:=by rw[←hw1];exact ((Chg.refl Nil w).alloc _).alloc _
 have hB1:Box w1 st [.pointer (some ⟨p,0,none⟩),.int .i64 most,.int .i64 age,.int .i64 byt,.slice none 0 0,.bool false] 118:=by
  have h:=Box.new (w.alloc (.cells #[.int .i64 most,.int .i64 age,.int .i64 byt] 37)) [.pointer (some ⟨p,0,none⟩),.int .i64 most,.int .i64 age,.int .i64 byt,.slice none 0 0,.bool false] 118
  rw[World.size_alloc,hcc,hst] at h;rw[←hw1];exact h
 have hBC:Box w1 cc [.int .i64 most,.int .i64 age,.int .i64 byt] 37:=by
  have h:=Box.new w [.int .i64 most,.int .i64 age,.int .i64 byt] 37
  rw[hcc] at h;rw[←hw1];exact h.chg ((Chg.refl Nil _).alloc _) (fun h=>h)
 rw[hcc,hst,hw1];have HZ1:=Lib.hid hz1
 have HC1:=Lib.hid hc1
 have HB1:=Lib.hid hB1
 have HBC:=Lib.hid hBC
 have HCC:Hid (w.heap.size=cc∧st=cc+1):=⟨hcc,hst.symm⟩
 have HS1:=Lib.hid (HSI.out w1 hc1)
 have HR1:=Lib.hid (HRD.out w1 hc1)
 clear hz1 hc1 hB1 hBC hcc hst hw1 h1 h2;go_upto_if 35 with (go_at_call 52;refine HS1.out.mono ?_;rintro e w' ⟨rfl,rfl⟩)
 go_cut [7] from 35 (fun v7 wr=>v7 = .string ⟨text.toArray⟩∧Hid (Chg Nil w1 wr))
 case first=>
  by_cases hn0:0<n
  ·have hnz:(0:Int)<(n:Int):=by omega
   have hne:text.length=n:=HNN.out
   clear hne;go_wp2_with fail;refine HR1.out.mono ?_
   rintro e w2 ⟨a,c,rfl,hb,hc⟩
   have hcv:=conv_bytes (P:=Tryz.prog) Tryz.underlying29 Tryz.underlying5 Tryz.underlying9 hb c
   have HC2:=Lib.hid hc
   clear hb hc;go_wp2_with fail;go_meet;exact⟨rfl,HC2.out⟩
  ·have hnz:¬(0:Int)<(n:Int):=by omega
   have hte:text=[]:=List.length_eq_zero_iff.1 (by rw[HNN.out];omega)
   have HTE:=Lib.hid hte
   clear hte hn0;go_wp2_with fail;go_meet;exact⟨by rw[HTE.out],Chg.refl _ _⟩
 case rest=>
  obtain⟨rfl,HC2⟩:=hcut
  have HT2:Hid (∀ W,Chg (fun k=>k=st) wc W→TabE W∧MaxL W):=fun W hW=>by
   have hz:=HCC.out
   have hb:=HH.out.lo
   refine⟨((HT.out.chg HC1.out).chg HC2.out).off hW (fun m hm g hg hk=>?_),((HM.out.chg HC1.out (fun h=>h)).chg HC2.out (fun h=>h)).chg hW (fun hk=>?_)⟩
   ·have:=hb g (HTB.out m hm g hg);omega
   ·have:=hb _ HMB.out;omega
  have HRE:=Lib.hid (callsIn_wide.1 (read_in (HB1.out.chg HC2.out (fun h=>h)) HT2.out ⟨text.toArray⟩ (by rw[size_eq];exact HLEN.out)))
  go_wp2_with fail;refine HRE.out.mono ?_
  rintro e w3 ⟨hc3,⟨hlt,rfl⟩ | ⟨ts,es,va,sv,vs,hlt,rfl,hSE,hOV,hvl,hOZ,hsvb,hvzb⟩⟩
  ·have HLT:=Lib.hid hlt
   have HC3:Hid (Chg (Off B) w w3):=((HC1.out.trans HC2.out (fun _ h=>h.elim)).weak fun _ h=>h.elim).trans hc3 (fun k hk=>.inr (by have:=HCC.out;omega))
   clear hlt hc3;rw[show errD 15=Value.iface 39 (.int .i64 15) from rfl]
   go_wp2_with fail;go_ret2;refine⟨HC3.out,?_⟩
   unfold TOpenAt;rw[HLT.out];rfl
  ·have hsv:=ownsRow_form hOV
   obtain⟨sa,sn,sc,rfl⟩:=hsv
   have HLT:=Lib.hid hlt
   have HSE:=Lib.hid hSE
   have HOV:=Lib.hid hOV
   have HVL:=Lib.hid hvl
   have HSVB:=Lib.hid hsvb
   have HVZB:=Lib.hid hvzb
   have HOZ:=Lib.hid hOZ
   have HC3:Hid (Chg Nil w w3):=(HC1.out.trans HC2.out (fun _ h=>h.elim)).trans hc3 (fun k hk=>.inr (by have:=HCC.out;omega))
   have HC33:=Lib.hid hc3
   clear hlt hc3 hSE hOV hvl hOZ hsvb hvzb;have HLK:Hid (∀ bg:ByteArray,bg.data.toList=[]→Calls Tryz.prog 28 #[.pointer (some ⟨p,0,none⟩),.string bg] w3 fun e w'=>∃ v,e = .returned v∧OwnS w3.heap.size w' v [topicsN]∧Chg Nil w3 w'):=fun bg hbg=>by
    have h1:=list_known (HH.out.nil HC3.out).a bg
    rw[hbg,HLS.out] at h1;exact h1
   go_wp2_with fail;refine (HLK.out _ rfl).mono ?_
   rintro e w4 ⟨nv,rfl,hnv,hc4⟩
   obtain⟨na,nc,rfl,hcell⟩:=hnv.vals
   obtain⟨ng,rfl,hz⟩:=hcell 0 (by decide)
   have hz:w4.cell? ⟨ng,0,none⟩=some (.string ⟨#[116,111,112,105,99,115]⟩):=hz
   have HZ:=Lib.hid hz
   have HC4:Hid (Chg Nil w w4):=HC3.out.trans hc4 (fun _ h=>.inl h)
   have HSE4:=Lib.hid (HSE.out.chg hc4 (fun h=>h) (fun _ _ h=>h) (fun _ _ h=>h))
   have HOV4:Hid (OwnV w4 (.slice sa sn sc) vs):=ownsRow_chg HOV.out hc4 (fun _ _ h=>h)
   have HOZ4:Hid (∀ i (h:i<vs.length) (h':i<ts.length),OwnZ w4 vs[i] ts[i].starts):=fun i h h'=>(HOZ.out i h h').chg hc4 (fun _ _ h=>h)
   have HC34:=Lib.hid hc4
   clear hnv hc4 hcell hz;rw[show ([topicsN]:List Nm).length=1 from rfl]
   go_wp2_with fail;go_loopw [52] (fun iv wr=>∃ (wq:World) (i:Nat),wq=wr∧i≤1∧iv = .int .i64 i∧Hid (Chg Nil w4 wr)) (fun iv _=>1-(RowKit.intOf iv).toNat)
   case atStart=>exact⟨_,0,rfl,by omega,rfl,Chg.refl _ _⟩
   case round=>
    obtain⟨wr,i,rfl,hi,rfl,HCR⟩:=hrel
    by_cases hi0:i=0
    ·subst hi0;have hz:=HCR.out.cell HZ.out (fun h=>h)
     have HCR2:=Lib.hid HCR.out
     go_wp2_with fail;go_roundw
     case rel=>exact⟨_,1,rfl,by omega,by simp,HCR⟩
     case measure=>simp[RowKit.intOf]
    ·have hi1:i=1:=by omega
     subst hi1;rw[show (((1:Nat)):Int)=(1:Int) from rfl]
     obtain⟨B2,hB2⟩:∃ B2:Nat→Prop,B2=fun k=>B k∨(w.heap.size≤k∧k<wr.heap.size):=⟨_,rfl⟩
     have hcw:Chg Nil w wr:=HC4.out.trans HCR.out (fun _ h=>.inl h)
     have hwc:w.heap.size≤wc.heap.size:=Nat.le_trans HC1.out.size HC2.out.size
     have hlt:∀ k o,wr.heap[k]? = some o→k<wr.heap.size:=fun k o h=>(Array.getElem?_eq_some_iff.1 h).1
     have hSE:=HSE4.out.chg HCR.out (fun h=>h) (fun _ _ h=>h) (fun _ _ h=>h)
     have hOV:OwnV wr (.slice sa sn sc) vs:=ownsRow_chg HOV4.out HCR.out (fun _ _ h=>h)
     have hOZ:∀ j (h:j<vs.length) (h':j<ts.length),OwnZ wr vs[j] ts[j].starts:=fun j h h'=>(HOZ4.out j h h').chg HCR.out (fun _ _ h=>h)
     have hTI:TI w.heap.size B2 wr st p cc most age byt va (.slice sa sn sc) es vs ts 0 S d:=by
      have hds:=HH.out.grow hcw
      rw[←hB2] at hds;have hho:=HCC.out
      refine⟨hSE.box,((HBC.out.chg HC2.out (fun h=>h)).chg (show Chg (fun k=>k=st) wc w3 from HC33.out) (fun e=>by omega)).chg (HC34.out.trans HCR.out (fun _ h=>.inl h)) (fun h=>h),hSE.row,hSE.len,hSE.nd,hOV,HVL.out,hOZ,fun j hj hj'=>⟨_,(hSE.ent j hj hj').1⟩,fun j hj hj' _=>(hSE.ent j hj hj').1,?_,?_,?_,?_,?_,?_,hds,HT.out.chg hcw,fun m hm g hg=>?_,HT.out.lt,fun j hj=>Nat.le_trans hwc (hSE.ent j hj (by rw[←hSE.len];exact hj)).2⟩
      ·rw[hB2];exact .inr ⟨by omega,hlt _ _ hSE.box⟩
      ·rw[hB2];exact .inr ⟨by omega,by have:=hlt _ _ hSE.box;omega⟩
      ·intro b hb;rw[hB2];obtain⟨o,ho⟩:=row_block hSE.row hb
       exact .inr ⟨Nat.le_trans hwc (hSE.own b hb),hlt _ _ ho⟩
      ·intro b hb;rw[hB2];obtain⟨o,ho⟩:=row_block hOV hb
       exact .inr ⟨Nat.le_trans hwc (HSVB.out b hb),hlt _ _ ho⟩
      ·intro j hj b hb;rw[hB2];obtain⟨o,ho⟩:=row_block (hOZ j hj (by rw[←HVL.out];exact hj)) hb
       exact .inr ⟨Nat.le_trans hwc (HVZB.out j hj b hb),hlt _ _ ho⟩
      ·intro j hj;rw[hB2];obtain⟨h1,h2⟩:=hSE.ent j hj (by rw[←hSE.len];exact hj)
       exact .inr ⟨Nat.le_trans hwc h2,hlt _ _ h1⟩
      ·rw[hB2];exact .inl (HTB.out m hm g hg)
     have HTI:=Lib.hid hTI
     have HCW:=Lib.hid hcw
     have HB2:Hid (∀ k,B k→B2 k):=fun k hk=>by rw[hB2];exact .inl hk
     obtain⟨xa,xc,hva,_,hvals⟩:=hTI.row.val
     have HVALS:=Lib.hid hvals
     have c4:=hTI.box.cell (j:=4) rfl
     subst hva;obtain⟨m,hm⟩:∃ m,es.length=m:=⟨_,rfl⟩
     have HMM:=Lib.hid hm
     rw[hm] at HTI c4
     clear hcw hwc hlt hSE hOV hOZ hTI hvals hm hB2;go_wp2_with fail;obtain⟨R,hR⟩:∃ R,topsGo most ts d=R:=⟨_,rfl⟩
     have HRR:=Lib.hid hR
     obtain⟨wB,hwB⟩:∃ wB,wB=wr:=⟨_,rfl⟩
     rw[←hwB] at HVALS HTI HCW
     clear hR c4;go_loopw [75] (fun iv wr=>∃ (wq:World) (i:Nat) (Bx S':Nat→Prop) (d':Dk),wq=wr∧i≤m∧iv = .int .i64 i∧Hid (TI w.heap.size Bx wr st p cc most age byt (.slice xa m xc) (.slice sa sn sc) es vs ts i S' d')∧Hid (topsGo most (ts.drop i) d'=R)∧Hid (EmptyD d')∧Hid (∀ k,B k→Bx k)∧Hid (Chg (Off B) w wr)) (fun iv _=>m-(RowKit.intOf iv).toNat)
     case atStart=>exact⟨_,0,B2,S,d,rfl,Nat.zero_le _,rfl,(by rw[←hwB];exact HTI),HRR,HE,HB2,(by rw[←hwB];exact (HCW.out.weak fun _ h=>h.elim))⟩
     case round=>
      obtain⟨wr,i,Bx,S1,d1,rfl,hi,rfl,HTI1,HGO,HE1,HBB,HC5⟩:=hrel
      have hmb:(i:Int)+1≤5000:=by
       have h1:=listT_count HLT.out
       have h2:=HTI1.out.len
       have h3:=HMM.out
       have h4:=HLEN.out
       omega
      by_cases hin:i<m
      ·have hii:(i:Int)<(m:Int):=by omega
       have hI:=HTI1.out
       have hie:i<es.length:=by rw[HMM.out];exact hin
       have hit:i<ts.length:=by rw[←hI.len];exact hie
       have hiv:i<vs.length:=by rw[hI.vlen];exact hit
       obtain⟨a,cap,hve,_,hv⟩:=hI.row.val
       obtain⟨g,hg,hz⟩:=hv i hie
       have exa:xa=some ⟨g,0,none⟩:=(Value.slice.inj hve).1.trans hg
       have hb0:=hI.new i hie hit (Nat.le_refl _)
       obtain⟨t,ht⟩:∃ t,ts[i]=t:=⟨_,rfl⟩
       obtain⟨q,hq⟩:∃ q,es[i]=q:=⟨_,rfl⟩
       rw[hq] at hz hb0
       rw[ht] at hb0;obtain⟨hn10,hsl,hpos⟩:=listT_small HLT.out t (by rw[←ht];exact List.getElem_mem hit)
       have HT10:=Lib.hid hn10
       have HPOS:=Lib.hid hpos
       have HTQ:Hid (ts[i]? = some t∧es[i]? = some q):=⟨by rw[List.getElem?_eq_getElem hit,ht],by rw[List.getElem?_eq_getElem hie,hq]⟩
       have e1:=hb0.cell (j:=1) rfl
       obtain⟨nk,hnk⟩:∃ nk,t.starts.length=nk:=⟨_,rfl⟩
       have hnk2:nk≤2001:=by have:=HLEN.out;omega
       have HNK:=Lib.hid hnk
       rw[hnk] at e1;have hdr:ts.drop i=t::ts.drop (i+1):=by rw[List.drop_eq_getElem_cons hit,ht]
       have HGO2:Hid ((if (partsGo most t.name t.starts 0 d1).1=0 then topsGo most (ts.drop (i+1)) (partsGo most t.name t.starts 0 d1).2 else partsGo most t.name t.starts 0 d1)=R):=by
        have h1:=HGO.out
        rw[hdr] at h1;exact h1
       obtain⟨PG,hPG⟩:∃ PG,partsGo most t.name t.starts 0 d1=PG:=⟨_,rfl⟩
       rw[hPG] at HGO2;have HPG:=Lib.hid hPG
       have HB0:=Lib.hid hb0
       have HTI2:Hid (TI w.heap.size Bx wr st p cc most age byt (.slice xa m xc) (.slice sa sn sc) es vs ts (i+1) S1 d1):={ hI with new:=fun j hj hj' hij=>hI.new j hj hj' (by omega) }
       subst exa;clear hI hve hv hb0 hn10 hsl hpos hnk hdr hPG HGO HTI1 hq ht hie hit hiv hg;go_wp2_with fail;go_loopw [85] (fun iv wr=>∃ (wq:World) (k:Nat) (Bx S':Nat→Prop) (d':Dk) (lv:Value) (ls:List Nat),wq=wr∧k≤nk∧iv = .int .i64 k∧Hid (TI w.heap.size Bx wr st p cc most age byt (.slice (some ⟨g,0,none⟩) m xc) (.slice sa sn sc) es vs ts (i+1) S' d')∧Hid (Box wr q (t.cells lv) 126∧OwnLg wr lv ls∧ls.length=k∧∀ b,lv.ownBlock=some b→Bx b∧w.heap.size≤b)∧Hid (partsGo most t.name (t.starts.drop k) k d'=PG)∧Hid (EmptyD d')∧Hid (∀ k,B k→Bx k)∧Hid (Chg (Off B) w wr)) (fun iv _=>nk-(RowKit.intOf iv).toNat)
       case atStart=>exact⟨_,0,Bx,S1,d1,.slice none 0 0,[],rfl,Nat.zero_le _,rfl,HTI2,⟨HB0.out,World.ownsRow_nil _ _ _ _,rfl,fun b hb=>(by cases hb)⟩,HPG,HE1,HBB,HC5⟩
       case round=>
        obtain⟨wr,k,Bk,S2,d2,lv,ls,rfl,hk,rfl,HTIk,HLV,HPK,HE2,HBK,HC6⟩:=hrel
        clear hz e1;by_cases hkn:k<nk
        ·have hki:(k:Int)<(nk:Int):=by omega
         have hk1:(k:Int)+1≤5000:=by omega
         have hI:=HTIk.out
         have hte:=HTQ.out
         have hit:i<ts.length:=(List.getElem?_eq_some_iff.1 hte.1).1
         have hie:i<es.length:=by rw[hI.len];exact hit
         have hiv:i<vs.length:=by rw[hI.vlen];exact hit
         have htE:ts[i]=t:=(List.getElem?_eq_some_iff.1 hte.1).2
         have heE:es[i]=q:=(List.getElem?_eq_some_iff.1 hte.2).2
         have hks:k<t.starts.length:=by rw[HNK.out];exact hkn
         obtain⟨v,hv⟩:∃ v,t.starts[k]=v:=⟨_,rfl⟩
         have hv0:0≤v:=HPOS.out v (by rw[←hv];exact List.getElem_mem hks)
         obtain⟨a1,p1,hve,_,hvv⟩:=hI.vrow.val
         obtain⟨g2,ho2,hg2,hz2⟩:=hvv i hiv
         have esa:sa=some ⟨g2,0,none⟩:=(Value.slice.inj hve).1.trans hg2
         have esn:sn=vs.length:=(Value.slice.inj hve).2.1
         have hOZi:=hI.vz i hiv hit
         rw[htE] at hOZi;obtain⟨a3,p3,hze,_,hzz⟩:=hOZi.val
         obtain⟨g3,hg3,hz3⟩:=hzz k hks
         rw[hze,hg3,HNK.out] at hz2;rw[hv] at hz3;have hB3:Bk g3:=hI.bvz i hiv g3 (by rw[hze,hg3];rfl)
         have hB2k:Bk g2:=hI.bsv g2 ho2
         have hBq:Bk q:=by rw[←heE];exact hI.bes i hie
         have e0:=HLV.out.1.cell (j:=0) rfl
         have x0:=hI.cfg.cell (j:=0) rfl
         have hsn:(i:Int)<(sn:Int):=by rw[esn];omega
         have hsn2:i<sn:=by rw[esn];exact hiv
         subst esa;obtain⟨nm,hnm⟩:∃ nm:ByteArray,(⟨t.name.toArray⟩:ByteArray)=nm:=⟨_,rfl⟩
         rw[hnm] at e0;have HNM:Hid (nm.data.toList=t.name):=by show _=_;rw[←hnm]
         have hnms:nm.size≤1000:=by rw[size_eq,HNM.out];have:=HT10.out;omega
         have HX0:=Lib.hid x0
         have HE0:=Lib.hid e0
         have HZ2:=Lib.hid hz2
         have HZ3:=Lib.hid hz3
         have HBQ:Hid (Bk q∧Bk g2∧Bk g3∧Bk cc):=⟨hBq,hB2k,hB3,hI.bc⟩
         have HNMS:=Lib.hid hnms
         have HV0:=Lib.hid hv0
         obtain⟨O,hO⟩:∃ O,openOne most t.name k v d2=O:=⟨_,rfl⟩
         have HPK2:Hid ((if O.1=0 then partsGo most t.name (t.starts.drop (k+1)) (k+1) O.2 else O)=PG):=by
          have h1:=HPK.out
          rw[List.drop_eq_getElem_cons hks,hv] at h1
          show _=_
          rw[←h1,←hO];rfl
         have HDIR:Hid (∀ w',Chg (Off Bk) wr w'→Calls Tryz.prog 66 #[.string nm,.int .i64 k] w' fun e w''=>e = .returned (.string ⟨(dirOf t.name k).toArray⟩)∧Chg Nil w' w''):=fun w' hw=>by
          have h1:=dir_any (HTIk.out.tab.offB HTIk.out.tb hw).tabs nm HNMS.out k (by omega)
          rw[HNM.out] at h1;exact h1
         have HOP:Hid (∀ w',Chg (Off Bk) wr w'→DsS Bk w' p S2 d2→Calls Tryz.prog 65 #[.pointer (some ⟨p,0,none⟩),.string ⟨(dirOf t.name k).toArray⟩,.int .i64 most,.int .i64 v] w' fun e w''=>POpenAt Bk w' w'' p O e):=fun w' hw hd=>by
          have h1:=popen_any hd (HTIk.out.tab.offB HTIk.out.tb hw) HTIk.out.tb t.name HT10.out k (by omega) most HMO.out v HV0.out HE2.out
          rw[hO] at h1;exact h1
         have HOE:Hid (EmptyD O.2):=by rw[←hO];exact HE2.out.one
         clear hI hte hit hie hiv htE heE hks hv hv0 hve hvv ho2 hg2 hz2 hOZi hze hzz hg3 hz3 hB3 hB2k hBq e0 x0 hnm hnms hO esn;go_upto_region 25 with fail;by_cases hok:O.1=0
         ·have HOK:=Lib.hid hok
          clear hok;refine Ch.wp_region_chain _ (Chg (Off Bk)) [17] (PoF Bk p S2 d2 O.2) (by kernel_rfl) (fun _=>Chg.refl _ _) (fun _ _ _ h k=>h.trans k (fun _ h=>.inl h)) [[],[],[1],[2],[3],[4],[],[5,6],[],[8],[],[],[10,11],[12],[],[13,14],[15],[0,7,9,16],[17],[18],[18],[19],[20]] rfl (by kernel_rfl) (by kernel_rfl) (Chg.refl _ _).drew ?_ ?_
          ·exact DsS.nil HTIk.out.ds (Chg.refl Nil _).drew
          iterate 5 ((with_reducible apply Ch.Walk.eq);(case hd=>rfl);(case hi=>rfl);case h=>(intro w2 hw2 N hN;simp only[Ch.depB];go_simp;(try go_bits);with_reducible exact hN _ (Chg.refl _ _) (fun _ h=>h)))
          ((with_reducible apply Ch.Walk.eq);(case hd=>rfl);(case hi=>rfl);case h=>(intro w2 hw2 N hN;(have hq:=hw2.cell HE0.out (fun ho=>ho HBQ.out.1));simp only[Ch.depB];go_simp;(try go_bits);with_reducible exact hN _ (Chg.refl _ _) (fun _ h=>h)))
          ((with_reducible apply Ch.Walk.eq);(case hd=>rfl);(case hi=>rfl);case h=>(intro w2 hw2 N hN;simp only[Ch.depB];go_simp;(try go_bits);with_reducible exact hN _ (Chg.refl _ _) (fun _ h=>h)))
          simp only[List.nil_append,List.cons_append]
          refine Ch.Walk.eq (c:=.string ⟨(dirOf t.name k).toArray⟩) rfl rfl ?_ ?_
          ·intro w2 hw2 N hN;simp only[Ch.depB,Ch.depC,Nat.reduceBEq,Nat.reduceAdd]
           go_simp;refine (HDIR.out w2 hw2).mono ?_
           rintro e w5 ⟨rfl,hc5⟩
           exact⟨_,rfl,hN _ (hc5.weak (fun _ h=>h.elim)) (fun vs hF=>PoF.nil hc5 vs hF)⟩
          simp only[List.nil_append,List.cons_append]
          ((with_reducible apply Ch.Walk.eq);(case hd=>rfl);(case hi=>rfl);case h=>(intro w2 hw2 N hN;simp only[Ch.depB];go_simp;(try go_bits);with_reducible exact hN _ (Chg.refl _ _) (fun _ h=>h)))
          ((with_reducible apply Ch.Walk.eq);(case hd=>rfl);(case hi=>rfl);case h=>(intro w2 hw2 N hN;(have hq:=hw2.cell HX0.out (fun ho=>ho HBQ.out.2.2.2));simp only[Ch.depB];go_simp;(try go_bits);with_reducible exact hN _ (Chg.refl _ _) (fun _ h=>h)))
          iterate 3 ((with_reducible apply Ch.Walk.eq);(case hd=>rfl);(case hi=>rfl);case h=>(intro w2 hw2 N hN;simp only[Ch.depB];go_simp;(try go_bits);with_reducible exact hN _ (Chg.refl _ _) (fun _ h=>h)))
          ((with_reducible apply Ch.Walk.eq);(case hd=>rfl);(case hi=>rfl);case h=>(intro w2 hw2 N hN;(have hq:=hw2.cell HZ2.out (fun ho=>ho HBQ.out.2.1));simp only[Ch.depB];go_simp;(try go_bits);with_reducible exact hN _ (Chg.refl _ _) (fun _ h=>h)))
          iterate 2 ((with_reducible apply Ch.Walk.eq);(case hd=>rfl);(case hi=>rfl);case h=>(intro w2 hw2 N hN;simp only[Ch.depB];go_simp;(try go_bits);with_reducible exact hN _ (Chg.refl _ _) (fun _ h=>h)))
          ((with_reducible apply Ch.Walk.eq);(case hd=>rfl);(case hi=>rfl);case h=>(intro w2 hw2 N hN;(have hq:=hw2.cell HZ3.out (fun ho=>ho HBQ.out.2.2.1));simp only[Ch.depB];go_simp;(try go_bits);with_reducible exact hN _ (Chg.refl _ _) (fun _ h=>h)))
          simp only[List.nil_append,List.cons_append]
          refine Ch.Walk.chainP 0 MkL (fun _ _ _ h _=>h) rfl rfl ?_ ?_
          ·intro w6 hw6 us hus hF N hN;obtain rfl:=List.eq_nil_of_length_eq_zero hus
           have F3:DsS Bk w6 p S2 d2:=hF
           have HDO:=Lib.hid (HOP.out w6 hw6 F3)
           clear F3 hF;simp only[Ch.depB,Ch.depC,Nat.reduceBEq,Nat.reduceAdd]
           go_simp;refine HDO.out.mono ?_
           rintro e w7 ⟨hc7,hcase⟩
           rcases hcase with ⟨_,l2,S',rfl,h2⟩ | ⟨h1,_⟩
           ·exact⟨_,rfl,hN _ _ ⟨l2,rfl⟩ hc7 ⟨S',h2⟩⟩
           ·exact absurd HOK.out h1
          simp only[List.nil_append,List.cons_append]
          refine Ch.Walk.sat MkL (fun _ _ _ h _=>h) rfl rfl ?_ ?_
          ·intro w2 hw2 N hN;simp only[Ch.depB,Ch.depC,Nat.reduceBEq,Nat.reduceAdd]
           rintro v ⟨l2,rfl⟩
           go_simp;exact hN _ _ ⟨l2,rfl⟩ (Chg.refl _ _) (fun _ h=>h)
          simp only[List.nil_append,List.cons_append]
          refine Ch.Walk.sat PtL (fun _ _ _ h _=>h) rfl rfl ?_ ?_
          ·intro w2 hw2 N hN;simp only[Ch.depB,Ch.depC,Nat.reduceBEq,Nat.reduceAdd]
           rintro v ⟨l2,rfl⟩
           go_simp;exact hN _ _ ⟨l2,rfl⟩ (Chg.refl _ _) (fun _ h=>h)
          simp only[List.nil_append,List.cons_append]
          refine Ch.Walk.eq (c:=.nilIface) rfl rfl ?_ ?_
          ·intro w2 hw2 N hN;simp only[Ch.depB,Ch.depC,Nat.reduceBEq,Nat.reduceAdd]
           rintro v ⟨l2,rfl⟩
           go_simp;exact hN _ (Chg.refl _ _) (fun _ h=>h)
          simp only[List.nil_append,List.cons_append]
          refine Ch.Walk.sat PtL (fun _ _ _ h _=>h) rfl rfl ?_ ?_
          ·intro w2 hw2 N hN;simp only[Ch.depB,Ch.depC,Nat.reduceBEq,Nat.reduceAdd]
           rintro v ⟨l2,rfl⟩
           go_simp;exact hN _ _ ⟨l2,rfl⟩ (Chg.refl _ _) (fun _ h=>h)
          simp only[List.nil_append,List.cons_append]
          ((with_reducible apply Ch.Walk.eq);(case hd=>rfl);(case hi=>rfl);case h=>(intro w2 hw2 N hN;simp only[Ch.depB];go_simp;(try go_bits);with_reducible exact hN _ (Chg.refl _ _) (fun _ h=>h)))
          intro w6 hw6;simp only[List.nil_append,List.cons_append,Ch.Fin,List.map_cons,List.map_nil,List.getD_cons_zero,List.getD_cons_succ]
          intro v17 _ v18 _ v19 _ v21 hv21 hF;have e21:v21 = .pointer (some ⟨vPt v21,0,none⟩):=by
           obtain⟨l2,hl2⟩:=hv21
           rw[hl2];rfl
          generalize vPt v21=l2 at e21;subst e21;have HF6:Hid (∃ S',DsS Bk w6 p S' O.2):=hF
          have HW6:=Lib.hid hw6
          have HLQ:Hid (Box w6 q (t.cells lv) 126∧OwnLg w6 lv ls):=⟨HLV.out.1.chg hw6 (fun ho=>ho HBQ.out.1),ownsRow_chg HLV.out.2.1 hw6 (fun b hb ho=>ho (HLV.out.2.2.2 b hb).1)⟩
          clear hF hw6;have e3:=HLQ.out.1.cell (j:=3) rfl
          have HBN:=Lib.hid (Box.new w6 [.pointer (some ⟨l2,0,none⟩)] 55)
          have hoA:OwnLg (w6.alloc (.cells #[.pointer (some ⟨l2,0,none⟩)] 55)) lv ls:=ownsRow_chg HLQ.out.2 ((Chg.refl Nil w6).alloc _) (fun _ _ h=>h)
          unfold OwnLg at hoA;rw[HLV.out.2.2.1] at hoA;have HOA:=Lib.hid hoA
          clear hoA;go_simp;go_wp2_with (at_builtin;go_must (refine wpList_append_grew rfl (.tmp 116) (.tmp 118) 124 124 rfl lgT _ Tryz.underlying124 (by intro _;simp) lv k (ls.map fun b=>Value.pointer (some ⟨b,0,none⟩)) rfl HOA.out _ 1 [.pointer (some ⟨l2,0,none⟩)] rfl (Source.box HBN.out rfl (by intro u hu;rw[List.mem_singleton.1 hu];rfl)) (by unfold maxLen;omega) (by omega) ?_);intro v2 w7 hown2 hg2 _;have HOW2:=Lib.hid hown2;have HG2:=Lib.hid hg2;obtain⟨x2,n2,c2,rfl⟩:=ownsRow_form hown2;have hbx7:=Lib.hid ((HLQ.out.1.chg ((Chg.refl Nil w6).alloc (.cells #[.pointer (some ⟨l2,0,none⟩)] 55)) (fun h=>h)).chg hg2.chg (fun h=>(box_row_ne' HLQ.out.1 HLQ.out.2 (by decide)) h));have f3:=hbx7.out.free 3;have d3:=hbx7.out.cell (j:=3) rfl;clear hown2 hg2 e3)
          have HKB:Hid (k+1≤nk):=hkn
          go_roundw
          case rel=>
           obtain⟨S6,hd6⟩:=HF6.out
           have hT6:=HTIk.out.chg HW6.out hd6
           have hq0:w.heap.size≤q:=by
            obtain⟨hie,he⟩:=List.getElem?_eq_some_iff.1 HTQ.out.2
            have h1:=hT6.ge i hie
            rw[he] at h1;exact h1
           have hq6:q<w6.heap.size:=(Array.getElem?_eq_some_iff.1 HLQ.out.1).1
           have hw6z:w.heap.size≤w6.heap.size:=Nat.le_trans HC6.out.size HW6.out.size
           have hc7:Chg (fun b=>lv.ownBlock=some b∨b=q) w6 w7:=((Chg.refl (fun b=>lv.ownBlock=some b∨b=q) w6).alloc _).trans HG2.out.chg (fun b hb=>.inl (.inl hb))
           have hc8:Chg (fun b=>lv.ownBlock=some b∨b=q) w6 (w7.setCell ⟨q,3,none⟩ (.slice x2 n2 c2)):=hc7.setCell (.inl (.inr rfl)) _
           have hb8:Box (w7.setCell ⟨q,3,none⟩ (.slice x2 n2 c2)) q (t.cells (.slice x2 n2 c2)) 126:=hbx7.out.set 3 _
           have hqn:¬(Value.slice x2 n2 c2).ownBlock=some q:=fun hx=>by
            rcases HG2.out.own q hx with h | h
            ·exact box_row_ne' HLQ.out.1 HLQ.out.2 (by decide) h
            ·rw[World.size_alloc] at h;omega
           have ho8:OwnLg (w7.setCell ⟨q,3,none⟩ (.slice x2 n2 c2)) (.slice x2 n2 c2) (ls++[l2]):=by
            unfold OwnLg;rw[List.length_append,List.length_singleton,HLV.out.2.2.1,List.map_append,List.map_singleton];exact ownsRow_chg HOW2.out ((Chg.refl (fun b=>b=q) w7).setCell (.inl rfl) _) (fun b hb e=>hqn (by rw[hb,e]))
           obtain⟨w8,hw8⟩:∃ w8,w7.setCell ⟨q,3,none⟩ (.slice x2 n2 c2)=w8:=⟨_,rfl⟩
           rw[hw8] at hc8 hb8 ho8 ⊢
           have hT8:=hT6.put HTQ.out.2 HTQ.out.1 HLQ.out.1 HLQ.out.2 HLV.out.2.2.2 hc8 (fun b hb=>hb) hb8
           obtain⟨B8,hB8⟩:∃ B8:Nat→Prop,B8=fun b=>Bk b∨(w6.heap.size≤b∧b<w8.heap.size):=⟨_,rfl⟩
           rw[←hB8] at hT8;have HT8:=Lib.hid hT8
           have HK8:Hid (∀ b,B b→B8 b):=fun b hb=>by rw[hB8];exact .inl (HBK.out b hb)
           have HL8:Hid (Box w8 q (t.cells (.slice x2 n2 c2)) 126∧OwnLg w8 (.slice x2 n2 c2) (ls++[l2])∧(ls++[l2]).length=k+1∧∀ b,(Value.slice x2 n2 c2).ownBlock=some b→B8 b∧w.heap.size≤b):=by
            refine⟨hb8,ho8,by rw[List.length_append,HLV.out.2.2.1];rfl,fun b hb=>?_⟩
            rw[hB8];rcases HG2.out.own b hb with h | h
            ·exact⟨.inl (HLV.out.2.2.2 b h).1,(HLV.out.2.2.2 b h).2⟩
            ·rw[World.size_alloc] at h;obtain⟨o,ho⟩:=row_block ho8 hb
             exact⟨.inr ⟨by omega,(Array.getElem?_eq_some_iff.1 ho).1⟩,by omega⟩
           have HP8:Hid (partsGo most t.name (t.starts.drop (k+1)) (k+1) O.2=PG):=by
            have h1:=HPK2.out
            rw[if_pos HOK.out] at h1
            exact h1
           have HC8:Hid (Chg (Off B) w w8):=by
            refine (HC6.out.trans HW6.out (fun b hb=>.inl (fun hbb=>hb (HBK.out b hbb)))).trans hc8 (fun b hb=>?_)
            rcases hb with hb | rfl
            ·exact .inr (HLV.out.2.2.2 b hb).2
            ·exact .inr hq0
           have hki8:Value.int .i64 ((k:Int)+1)=Value.int .i64 ((k+1:Nat):Int):=by simp
           clear hT8 hT6 hd6 hc8 hc7 hb8 ho8 hw8 hB8;exact⟨_,k+1,B8,S6,O.2,.slice x2 n2 c2,ls++[l2],rfl,HKB.out,hki8,HT8,HL8,HP8,HOE,HK8,HC8⟩
          case measure=>have:=HKB.out;simp[RowKit.intOf];omega
         ·have HOK:=Lib.hid hok
          clear hok;refine Ch.wp_region_chain _ (Chg (Off Bk)) [17] (PoF Bk p S2 d2 O.2) (by kernel_rfl) (fun _=>Chg.refl _ _) (fun _ _ _ h k=>h.trans k (fun _ h=>.inl h)) [[],[],[1],[2],[3],[4],[],[5,6],[],[8],[],[],[10,11],[12],[],[13,14],[15],[0,7,9,16],[17],[18],[18],[19],[20]] rfl (by kernel_rfl) (by kernel_rfl) (Chg.refl _ _).drew ?_ ?_
          ·exact DsS.nil HTIk.out.ds (Chg.refl Nil _).drew
          iterate 5 ((with_reducible apply Ch.Walk.eq);(case hd=>rfl);(case hi=>rfl);case h=>(intro w2 hw2 N hN;simp only[Ch.depB];go_simp;(try go_bits);with_reducible exact hN _ (Chg.refl _ _) (fun _ h=>h)))
          ((with_reducible apply Ch.Walk.eq);(case hd=>rfl);(case hi=>rfl);case h=>(intro w2 hw2 N hN;(have hq:=hw2.cell HE0.out (fun ho=>ho HBQ.out.1));simp only[Ch.depB];go_simp;(try go_bits);with_reducible exact hN _ (Chg.refl _ _) (fun _ h=>h)))
          ((with_reducible apply Ch.Walk.eq);(case hd=>rfl);(case hi=>rfl);case h=>(intro w2 hw2 N hN;simp only[Ch.depB];go_simp;(try go_bits);with_reducible exact hN _ (Chg.refl _ _) (fun _ h=>h)))
          simp only[List.nil_append,List.cons_append]
          refine Ch.Walk.eq (c:=.string ⟨(dirOf t.name k).toArray⟩) rfl rfl ?_ ?_
          ·intro w2 hw2 N hN;simp only[Ch.depB,Ch.depC,Nat.reduceBEq,Nat.reduceAdd]
           go_simp;refine (HDIR.out w2 hw2).mono ?_
           rintro e w5 ⟨rfl,hc5⟩
           exact⟨_,rfl,hN _ (hc5.weak (fun _ h=>h.elim)) (fun vs hF=>PoF.nil hc5 vs hF)⟩
          simp only[List.nil_append,List.cons_append]
          ((with_reducible apply Ch.Walk.eq);(case hd=>rfl);(case hi=>rfl);case h=>(intro w2 hw2 N hN;simp only[Ch.depB];go_simp;(try go_bits);with_reducible exact hN _ (Chg.refl _ _) (fun _ h=>h)))
          ((with_reducible apply Ch.Walk.eq);(case hd=>rfl);(case hi=>rfl);case h=>(intro w2 hw2 N hN;(have hq:=hw2.cell HX0.out (fun ho=>ho HBQ.out.2.2.2));simp only[Ch.depB];go_simp;(try go_bits);with_reducible exact hN _ (Chg.refl _ _) (fun _ h=>h)))
          iterate 3 ((with_reducible apply Ch.Walk.eq);(case hd=>rfl);(case hi=>rfl);case h=>(intro w2 hw2 N hN;simp only[Ch.depB];go_simp;(try go_bits);with_reducible exact hN _ (Chg.refl _ _) (fun _ h=>h)))
          ((with_reducible apply Ch.Walk.eq);(case hd=>rfl);(case hi=>rfl);case h=>(intro w2 hw2 N hN;(have hq:=hw2.cell HZ2.out (fun ho=>ho HBQ.out.2.1));simp only[Ch.depB];go_simp;(try go_bits);with_reducible exact hN _ (Chg.refl _ _) (fun _ h=>h)))
          iterate 2 ((with_reducible apply Ch.Walk.eq);(case hd=>rfl);(case hi=>rfl);case h=>(intro w2 hw2 N hN;simp only[Ch.depB];go_simp;(try go_bits);with_reducible exact hN _ (Chg.refl _ _) (fun _ h=>h)))
          ((with_reducible apply Ch.Walk.eq);(case hd=>rfl);(case hi=>rfl);case h=>(intro w2 hw2 N hN;(have hq:=hw2.cell HZ3.out (fun ho=>ho HBQ.out.2.2.1));simp only[Ch.depB];go_simp;(try go_bits);with_reducible exact hN _ (Chg.refl _ _) (fun _ h=>h)))
          simp only[List.nil_append,List.cons_append]
          refine Ch.Walk.chainE 0 (c:=.tuple #[.pointer none,errD O.1]) rfl rfl ?_ ?_
          ·intro w6 hw6 us hus hF N hN;obtain rfl:=List.eq_nil_of_length_eq_zero hus
           have F3:DsS Bk w6 p S2 d2:=hF
           have HDO:=Lib.hid (HOP.out w6 hw6 F3)
           clear F3 hF;simp only[Ch.depB,Ch.depC,Nat.reduceBEq,Nat.reduceAdd]
           go_simp;refine HDO.out.mono ?_
           rintro e w7 ⟨hc7,hcase⟩
           rcases hcase with ⟨h1,_⟩ | ⟨_,S',rfl,h2⟩
           ·exact absurd h1 HOK.out
           ·exact⟨_,rfl,hN _ hc7 ⟨S',h2⟩⟩
          iterate 5 ((with_reducible apply Ch.Walk.eq);(case hd=>rfl);(case hi=>rfl);case h=>(intro w2 hw2 N hN;simp only[Ch.depB];go_simp;(try go_bits);with_reducible exact hN _ (Chg.refl _ _) (fun _ h=>h)))
          intro w6 hw6;simp only[List.nil_append,List.cons_append,Ch.Fin,List.map_cons,List.map_nil,List.getD_cons_zero,List.getD_cons_succ]
          rintro⟨S6,hd6⟩
          have HC7:Hid (Chg (Off B) w w6):=HC6.out.trans hw6 (fun b hb=>.inl (fun hbb=>hb (HBK.out b hbb)))
          have HRO:Hid (R=O):=by
           have h1:=HPK2.out
           rw[if_neg HOK.out] at h1
           have h2:=HGO2.out
           rw[←h1,if_neg HOK.out] at h2
           exact h2.symm
          have hev:errD O.1 = .iface 39 (.int .i64 (O.1:Nat)):=errD_ne HOK.out
          clear hw6 hd6;rw[hev];go_simp;go_wp2_with fail;go_ret2;refine⟨HC7.out,?_⟩
          unfold TOpenAt;rw[HLT.out];refine .inr ⟨by rw[HRR.out,HRO.out];exact HOK.out,?_⟩
          rw[HRR.out,HRO.out,errD_ne HOK.out]
          rfl
        ·have hke:k=nk:=by omega
         subst hke;have hnn:¬(k:Int)<(k:Int):=by omega
         have HP0:Hid (PG=(0,d2)):=by
          have h1:=HPK.out
          rw[List.drop_of_length_le (by rw[HNK.out];exact Nat.le_refl _)] at h1
          exact h1.symm
         have HGO3:Hid (topsGo most (ts.drop (i+1)) d2=R):=by
          have h1:=HGO2.out
          rw[HP0.out] at h1;exact h1
         clear hkn;go_wp2_with fail;go_roundw
         case rel=>exact⟨_,i+1,Bk,S2,d2,rfl,by omega,by simp,HTIk,HGO3,HE2,HBK,HC6⟩
         case measure=>simp[RowKit.intOf];omega
      ·have hie:i=m:=by omega
       subst hie;have hnn:¬(i:Int)<(i:Int):=by omega
       have HR0:Hid (R.1=0):=by
        have h1:=HGO.out
        have h2:ts.drop i=[]:=List.drop_of_length_le (by rw[←HTI1.out.len,HMM.out];exact Nat.le_refl _)
        rw[h2] at h1;show R.1=0
        rw[←h1];rfl
       clear hin;go_wp2_with fail;go_ret2;refine⟨HC5.out,?_⟩
       unfold TOpenAt;rw[HLT.out];have h1:=HTI1.out
       refine .inl ⟨by rw[HRR.out];exact HR0.out,st,_,_,_,_,es,rfl,h1.box,h1.row,h1.len,h1.ent⟩
end Go.Proofs.YtobegmcbfgnpnaaGreatDoor
