/-
  The walk of (*Store).read. (Of the topics' seat.)
-/
import Derived.Test.YtobegmcbfgnpnaaGreatDoorU34
set_option linter.unusedVariables false
set_option linter.unusedSimpArgs false
set_option maxHeartbeats 0
set_option maxRecDepth 200000
namespace Go.Proofs.YtobegmcbfgnpnaaGreatDoor.Ch
section
variable {P:Program} {ops:Array Oper} {Q:Exit→Act→World→Prop} {w0:World} {a0:Act} {R:World→World→Prop} {C:List Nat} {F:List Value→World→Prop}
theorem Walk.chainOne {js:List Nat}{E:List (List Nat)}{o:Oper}{os:List Oper}{specs:List Spec}(hd:o.dst.isSome=true)(hi:C[1]? = some specs.length)
  (h:∀ w,R w0 w→∀ x:Value,F [x] w→∀ N:Value→World→Prop,(∀ v w',R w w'→F [x,v] w'→N v w')→Ob P ops o N w (depsOf ops (chained C [x] specs) js) a0)
  (hrest:Walk P ops R C F w0 Q a0 E os (specs++[Sum.inr (Sum.inl fun _ _=>True)])):Walk P ops R C F w0 Q a0 (js::E) (o::os) specs:=
 Walk.chain 1 hd hi (fun w hw vs hvs hF N hN=>by
  obtain⟨x,rfl⟩:=List.length_eq_one_iff.1 hvs
  exact h w hw x hF N hN) hrest
end
section
variable {P:Program} {Q:Exit→Act→World→Prop} {l0 n0:Nat} {w0:World} {a0:Act}
theorem wpIn_region_tail2 {id:Nat} (all l t:List Oper)(heq:all=l++t)(hq:¬LetsOut Q)(hnd:noDeferB all.toArray=true) (R:World→World→Prop) (C:List Nat) (F:List Value→World→Prop)(hm:P.follows .mixedOrders=true)(hrefl:∀ a,R a a)(htr:∀ a b c,R a b→R b c→R a c) (D:List (List Nat)) {n:Nat}(hn:a0.tmps.size=n)
  (hok:okB l.toArray n (D.take l.length)=true)(hch:chainB l.toArray C=true)(hla:tailB n D l t=true)(hr0:R w0 { w0 with drawn:=w0.drawn+1 })(hF:F [] { w0 with drawn:=w0.drawn+1 })
  (h:Walk P l.toArray R C F w0 (Thens P t Q) a0 (D.take l.length) l []):(Code.region id all.toArray true).wpIn (Fence.wide.inRound l0) n0 P Q a0 w0:=by
 subst hn;subst heq;have hok:=Ok.of hok
 have hC:=Chained.of hch
 obtain⟨specs,hE⟩:=each_of_walk hok l (D.take l.length) [] (by simp) (by simp) (by simp) (by simp) (by simp) (by simp) h
 refine wpIn_region_any hm (wpAny_round (noDefer_of hnd) hq _ _ _ _ ?_)
 have hnone:∀ k,k<l.toArray.size→(Array.replicate l.toArray.size false).getD k true=false:=by
  intro k hk;have hkl:k<l.length:=by simpa using hk
  simp[Array.getD_eq_getD_getElem?,hkl]
 have e2:Array.replicate (l++t).toArray.size false=Array.replicate l.toArray.size false++Array.replicate t.length false:=by
  apply Array.ext'
  simp[List.replicate_append_replicate]
 have e3:(l++t).toArray.size=l.toArray.size+t.length:=by simp
 rw[e2,e3];refine any_tail (P:=P) (Q:=Q) t l _ _ _ _ hla (by simp) (fun k u hk hl=>by
  have hkl:k<l.length:=by have:=lt_size hk;simpa using this
  simp[Array.getD_eq_getD_getElem?,hkl] at hl) ?_
 refine any_of_each hrefl htr hok hC hE _ _ _ _ ⟨by simp,hr0,rfl,rfl,?_,fun _ _=>rfl,?_,0,Nat.zero_le _,?_,by simpa using hF⟩ ?_ ?_
 ·intro k u hk hl;rw[hnone k (lt_size hk)] at hl
  cases hl
 ·intro k u d s hk hl;rw[hnone k (lt_size hk)] at hl
  cases hl
 ·intro m c hm;rw[hnone c (hC.lt c (List.mem_of_getElem? hm))]
  simp
 ·intro i hi _ hz;rw[hz] at hi;exact absurd hi (Nat.not_lt_zero _)
 ·rw[Array.toList_replicate];exact Nat.le_trans (List.length_filter_le _ _) (by simp)
theorem wpIn_region_tail {id:Nat} (all:List Oper) (k:Nat)(hq:¬LetsOut Q)(hnd:noDeferB all.toArray=true) (R:World→World→Prop) (C:List Nat) (F:List Value→World→Prop)(hm:P.follows .mixedOrders=true)(hrefl:∀ a,R a a)(htr:∀ a b c,R a b→R b c→R a c) (D:List (List Nat)) {n:Nat}(hn:a0.tmps.size=n)
  (hok:okB (all.take k).toArray n (D.take (all.take k).length)=true)(hch:chainB (all.take k).toArray C=true)(hla:tailB n D (all.take k) (all.drop k)=true)(hr0:R w0 { w0 with drawn:=w0.drawn+1 })(hF:F [] { w0 with drawn:=w0.drawn+1 })
  (h:Walk P (all.take k).toArray R C F w0 (Thens P (all.drop k) Q) a0 (D.take (all.take k).length) (all.take k) []):(Code.region id all.toArray true).wpIn (Fence.wide.inRound l0) n0 P Q a0 w0:=
 wpIn_region_tail2 all (all.take k) (all.drop k) (List.take_append_drop k all).symm hq hnd R C F hm hrefl htr D hn hok hch hla hr0 hF h
end
end Go.Proofs.YtobegmcbfgnpnaaGreatDoor.Ch
namespace Go.Proofs.YtobegmcbfgnpnaaGreatDoor
open Go.RowKit Go.Lib Go.Shelf
attribute [local go_sem] Oper.semAt_some
theorem yields_flat:∀ l:List UInt8,(yieldsOf l).flatten=l
 | []=>rfl
 | x::r=>by
  have ih:=yields_flat r
  unfold yieldsOf at ih ⊢
  unfold cutAt;cases hc:cutAt 10 r with
  | nil=>exact absurd hc (cutAt_ne _ _)
  | cons h t=>
   rw[hc] at ih;split
   ·next e=>
    subst e;show[10]++(yieldsV (h::t)).flatten=_
    rw[ih];rfl
   ·cases t with
    | nil=>
     have e2:(yieldsV [h]).flatten=h:=by
      show (if h=[] then [] else [h]:List (List UInt8)).flatten=h
      split
      ·next e=>rw[e];rfl
      ·simp
     rw[e2] at ih;rw[ih];show (if (x::r)=[] then [] else [x::r]:List (List UInt8)).flatten=_
     simp
    | cons q t=>
     have e2:(yieldsV (h::q::t)).flatten=h++[10]++(yieldsV (q::t)).flatten:=rfl
     rw[e2] at ih;rw[←ih];rfl
theorem yieldsV_ne:∀ {ps:List (List UInt8)}{y:List UInt8},y∈yieldsV ps→y≠[]
 | [],y,h=>by cases h
 | [p],y,h=>by
  have h':y∈(if p=[] then [] else [p]:List (List UInt8)):=h
  split at h'
  ·cases h'
  ·next hp=>rw[List.mem_singleton.1 h'];exact hp
 | p::q::r,y,h=>by
  rcases List.mem_cons.1 h with rfl | h
  ·simp
  ·exact yieldsV_ne h
theorem flat_len:∀ {ls:List (List UInt8)},(∀ y∈ls,y≠[])→ls.length≤ls.flatten.length
 | [],_=>Nat.le_refl _
 | y::r,h=>by
  have h1:=flat_len (ls:=r) (fun z hz=>h z (List.mem_cons_of_mem _ hz))
  have h2:=List.length_pos_iff.2 (h y (List.mem_cons_self ..))
  simp only[List.flatten_cons,List.length_append,List.length_cons]
  omega
theorem yields_bound {pre:List (List UInt8)}{x T:List UInt8}(h:(pre++[x]) <+: yieldsOf T):x.length≤T.length∧pre.length+1≤T.length:=by
 obtain⟨b,hb⟩:=h
 have h1:=yields_flat T
 rw[←hb,List.flatten_append,List.flatten_append] at h1;have h2:=congrArg List.length h1
 have h3:(pre++[x]).length≤(pre++[x]).flatten.length:=flat_len fun y hy=>yieldsV_ne (ps:=cutAt 10 T) (by show y∈yieldsOf T;rw[←hb];exact List.mem_append_left _ hy)
 rw[List.length_append,List.flatten_append] at h3;simp at h2 h3
 omega
theorem listT_len:∀ {a:List (List UInt8)}{l:List Tp},listT a=some l→l.length=a.length
 | [],l,h=>by simp[listT] at h;subst h;rfl
 | x::a,l,h=>by
  unfold listT at h;cases hx:lineT x with
  | none=>rw[hx] at h;simp at h
  | some v=>
   cases ha:listT a with
   | none=>rw[hx,ha] at h;simp at h
   | some m=>
    rw[hx,ha] at h;simp at h
    subst h;simp[listT_len ha]
def wordsT:List (List UInt8)→Option Tp
 | n::c::x::r=>if nameOk 10 cutTopic n=true∧(c=[48]∨c=[49]) then (numsT (x::r)).map fun l=>⟨n,c==[49],l⟩ else none
 | _=>none
theorem lineT_words (s:List UInt8):lineT s=wordsT (cutAt 32 s):=by
 unfold lineT wordsT;rfl
theorem cutAt_piece {c:UInt8}:∀ {l p:List UInt8},p∈cutAt c l→p.length≤l.length
 | [],p,h=>by simp[cutAt] at h;simp[h]
 | x::r,p,h=>by
  unfold cutAt at h;split at h
  ·rcases List.mem_cons.1 h with rfl | h
   ·simp
   ·have:=cutAt_piece h
    simp only[List.length_cons]
    omega
  ·have ih:=fun q hq=>@cutAt_piece c r q hq
   cases hc:cutAt c r with
   | nil=>exact absurd hc (cutAt_ne _ _)
   | cons q t=>
    rw[hc] at h ih
    rcases List.mem_cons.1 h with rfl | h
    ·have:=ih q (List.mem_cons_self ..)
     simp only[List.length_cons]
     omega
    ·have:=ih p (List.mem_cons_of_mem _ h)
     simp only[List.length_cons]
     omega
def headT:List (List UInt8)→Bool
 | n::c::_::_=>nameOk 10 cutTopic n&&(c==[48]||c==[49])
 | _=>false
theorem headT_few {l:List (List UInt8)}(h:l.length<3):headT l=false:=by
 match l,h with
 | [],_=>rfl
 | [_],_=>rfl
 | [_,_],_=>rfl
 | _::_::_::_,h=>simp at h;omega
theorem wordsT_head:∀ {l:List (List UInt8)},headT l=false→wordsT l=none
 | [],_=>rfl
 | [_],_=>rfl
 | [_,_],_=>rfl
 | n::c::x::r,h=>by
  have h':(nameOk 10 cutTopic n&&(c==[48]||c==[49]))=false:=h
  show (if nameOk 10 cutTopic n=true∧(c=[48]∨c=[49]) then _ else none)=none
  refine if_neg fun ⟨h1,h2⟩=>?_
  rw[h1] at h';rcases h2 with rfl | rfl<;>simp at h'
theorem wordsT_of {n c x:List UInt8}{r:List (List UInt8)}(h:headT (n::c::x::r)=true):(c=[48]∨c=[49])∧wordsT (n::c::x::r)=(numsT (x::r)).map fun l=>⟨n,c==[49],l⟩:=by
 have h':(nameOk 10 cutTopic n&&(c==[48]||c==[49]))=true:=h
 rw[Bool.and_eq_true,Bool.or_eq_true,beq_iff_eq,beq_iff_eq] at h';exact⟨h'.2,if_pos h'⟩
def RdI (n0:Nat) (w0:World) (st b2 b4 b5 b6 p:Nat) (c1 c2 c3:Value) (pre:List (List UInt8)) (W:World):Prop:=
 ∃ (ts:List Tp) (es:List Nat) (va sv:Value) (vs:List Value),listT (pre.map chop)=some ts∧StE n0 W st p c1 c2 c3 va es ts∧StV n0 W b6 sv vs ts∧
  Box W b2 [.pointer (some ⟨st,0,none⟩)] 33∧Box W b4 [.slice none 0 0] 120∧Box W b5 [.nilIface] 24∧Chg (fun k=>k=st) w0 W
def RdX (w0:World) (st b4 b5:Nat) (text:List UInt8) (W:World):Prop:=
 listT (linesOf text)=none∧Box W b4 [.slice none 0 0] 120∧Box W b5 [errD 15] 24∧Chg (fun k=>k=st) w0 W
def ReadAtT (w0:World) (st p:Nat) (c1 c2 c3:Value) (text:List UInt8) (e:Ending) (w':World):Prop:=
 Chg (fun k=>k=st) w0 w'∧((listT (linesOf text)=none∧e = .returned (.tuple #[.slice none 0 0,errD 15]))∨
  ∃ (ts:List Tp) (es:List Nat) (va sv:Value) (vs:List Value),listT (linesOf text)=some ts∧e = .returned (.tuple #[sv,.nilIface])∧StE w0.heap.size w' st p c1 c2 c3 va es ts∧
   OwnV w' sv vs∧vs.length=ts.length∧(∀ i (h:i<vs.length)(h':i<ts.length),OwnZ w' vs[i] ts[i].starts)∧(∀ b,sv.ownBlock=some b→w0.heap.size≤b)∧∀ i (h:i<vs.length) b,vs[i].ownBlock=some b→w0.heap.size≤b)
theorem row_block {w:World}{e:TypeId}{sz n:Nat}{v:Value}{xs:List Value}(h:w.ownsRow 0 e sz v n xs) {k:Nat}(hk:v.ownBlock=some k):∃ o,w.heap[k]? = some o:=by
 rcases h.2 with ⟨rfl,_⟩ | ⟨g,cap,cur,rfl,_,hg,_⟩
 ·cases hk
 ·obtain rfl:g=k:=Option.some.inj hk
  exact⟨_,hg⟩
def NewP (n0:Nat) (c:Value) (t:TypeId) (v:Value) (w:World):Prop:=∃ q,v = .slice (some ⟨q,0,none⟩) 1 1∧n0≤q∧Box w q [c] t
theorem NewP.keep {n0:Nat}{c:Value}{t:TypeId}{v:Value}{w w':World}{T:Nat→Prop}(h:NewP n0 c t v w)(hc:Chg T w w')(hT:∀ k,T k→k<n0):NewP n0 c t v w':=by
 obtain⟨q,h1,h2,h3⟩:=h
 exact⟨q,h1,h2,h3.chg hc (fun hq=>by have:=hT _ hq;omega)⟩
def TpF (n9:Nat) (va sv lv:Value) (es:List Nat) (q:Nat) (vs:List Value):List Value→World→Prop
 | [],w=>OwnE w va es∧OwnV w sv vs
 | [v],w=>(OwnE w v (es++[q])∧∀ k,v.ownBlock=some k→va.ownBlock=some k∨n9≤k)∧OwnV w sv vs
 | v::u::_,w=>(OwnE w v (es++[q])∧∀ k,v.ownBlock=some k→va.ownBlock=some k∨n9≤k)∧(OwnV w u (vs++[lv])∧∀ k,u.ownBlock=some k→sv.ownBlock=some k∨n9≤k)
theorem TpF.nil {n9:Nat}{va sv lv:Value}{es:List Nat}{q:Nat}{vs:List Value}{w w':World}(hc:Chg Nil w w'):∀ us,TpF n9 va sv lv es q vs us w→TpF n9 va sv lv es q vs us w'
 | [],h=>⟨ownsRow_chg h.1 hc (fun _ _ h=>h),ownsRow_chg h.2 hc (fun _ _ h=>h)⟩
 | [_],h=>⟨⟨ownsRow_chg h.1.1 hc (fun _ _ h=>h),h.1.2⟩,ownsRow_chg h.2 hc (fun _ _ h=>h)⟩
 | _::_::_,h=>⟨⟨ownsRow_chg h.1.1 hc (fun _ _ h=>h),h.1.2⟩,⟨ownsRow_chg h.2.1 hc (fun _ _ h=>h),h.2.2⟩⟩
theorem StE.low {n0 n1:Nat}{w:World}{st p:Nat}{c1 c2 c3 va:Value}{es:List Nat}{ts:List Tp}(h:StE n1 w st p c1 c2 c3 va es ts)(hn:n0≤n1):StE n0 w st p c1 c2 c3 va es ts:=
 ⟨h.box,h.row,h.len,fun i hi hi'=>⟨(h.ent i hi hi').1,Nat.le_trans hn (h.ent i hi hi').2⟩,fun k hk=>Nat.le_trans hn (h.own k hk),h.nd⟩
theorem lines_any (s:ByteArray) (w:World):Calls Tryz.prog 114 #[.string s] w fun e w'=>e = .returned (.func (.func 181) #[] #[.pointer (some ⟨w.heap.size,0,none⟩)])∧w'=w.alloc (.cells #[.string s] 9):=by
 go_enter Tryz.func114,Tryz.ntmps114
 go_wp2_with fail;go_ret;exact⟨rfl,rfl⟩
theorem results_cells2 {fn:Func}{q u:Tmp}{t s:TypeId}(h:fn.results = #[.cell q t,.cell u s]) (tmps:Array Value) (P:Program) (w:World) {a b:Addr}{v1 v2:Value} (e1:tmps.getD q undef = .pointer (some a)) (e2:tmps.getD u undef = .pointer (some b))
  (h1:(loadVar t a).run P w = .ok v1 w)(h2:(loadVar s b).run P w = .ok v2 w):(results fn tmps).run P w = .ok (.tuple #[v1,v2]) w:=by
 rw[Array.getD_eq_getD_getElem?] at e1 e2
 simp only[results,h]
 simp[Sem.run_bind,Result.andThen,e1,e2,h1,h2,asAddr]
theorem read_in {w:World} {st p:Nat} {c1 c2 c3:Value} (hb:Box w st [.pointer (some ⟨p,0,none⟩),c1,c2,c3,.slice none 0 0,.bool false] 118) (hT2:∀ W,Chg (fun k=>k=st) w W→TabE W∧MaxL W) (text:ByteArray) (hs:text.size≤2000) :
  CallsIn Fence.wide 6 Tryz.prog 62 #[.pointer (some ⟨st,0,none⟩),.string text] w (ReadAtT w st p c1 c2 c3 text.data.toList):=by
 have HT2:=Lib.hid hT2
 have HS:=Lib.hid hs
 clear hT2 hs;obtain⟨w1,hw1⟩:∃ w1,((((w.alloc (.cells #[.pointer (some ⟨st,0,none⟩)] 33)).alloc (.cells #[.slice none 0 0] 120)).alloc (.cells #[.nilIface] 24)).alloc (.cells #[.slice none 0 0] 120))=w1:=⟨_,rfl⟩
 refine callsIn_of_wp_marks Tryz.func62 rfl trivial ?_ rfl
 simp only[Tryz.ntmps62,List.size_toArray,List.length_cons,List.length_nil,Nat.reduceAdd,Nat.reduceSub,Array.replicate_succ,Array.replicate_zero,List.push_toArray,List.append_toArray,List.nil_append,List.cons_append]
 have hfl:Fence.wide.fn 114:=trivial
 gi_wp2_with (gi_at_call 114;refine (callsIn_wide.2 (lines_any _ _)).mono ?_;rintro e w' ⟨rfl,rfl⟩)
 obtain⟨b2,hb2⟩:∃ b,w.heap.size=b:=⟨_,rfl⟩
 obtain⟨b4,hb4⟩:∃ b,b2+1=b:=⟨_,rfl⟩
 obtain⟨b5,hb5⟩:∃ b,b4+1=b:=⟨_,rfl⟩
 obtain⟨b6,hb6⟩:∃ b,b5+1=b:=⟨_,rfl⟩
 obtain⟨bm,hbm⟩:∃ b,b6+1=b:=⟨_,rfl⟩
 have hs1:w1.heap.size=bm:=by rw[←hw1];simp;omega
 obtain⟨w2,hw2⟩:∃ w2,w1.alloc (.cells #[.string text] 9)=w2:=⟨_,rfl⟩
 have hs2:w2.heap.size=bm+1:=by rw[←hw2,World.size_alloc,hs1]
 have hc1:Chg Nil w w1:=by rw[←hw1];exact ((((Chg.refl Nil w).alloc _).alloc _).alloc _).alloc _
 have hc2:Chg Nil w w2:=by rw[←hw2];exact hc1.alloc _
 have hbT:Box w2 bm [.string text] 9:=by
  rw[←hw2,←hs1];exact Box.new w1 [.string text] _
 have hB6:Box w2 b6 [.slice none 0 0] 120:=by
  have h:=Box.new (((w.alloc (.cells #[.pointer (some ⟨st,0,none⟩)] 33)).alloc (.cells #[.slice none 0 0] 120)).alloc (.cells #[.nilIface] 24)) [.slice none 0 0] 120
  have e:(((w.alloc (.cells #[.pointer (some ⟨st,0,none⟩)] 33)).alloc (.cells #[.slice none 0 0] 120)).alloc (.cells #[.nilIface] 24)).heap.size=b6:=by simp;omega
  rw[e] at h;rw[←hw2,←hw1];exact h.chg ((Chg.refl Nil _).alloc _) (fun h=>h)
 have hB5:Box w2 b5 [.nilIface] 24:=by
  have h:=Box.new ((w.alloc (.cells #[.pointer (some ⟨st,0,none⟩)] 33)).alloc (.cells #[.slice none 0 0] 120)) [.nilIface] 24
  have e:((w.alloc (.cells #[.pointer (some ⟨st,0,none⟩)] 33)).alloc (.cells #[.slice none 0 0] 120)).heap.size=b5:=by simp;omega
  rw[e] at h;rw[←hw2,←hw1];exact h.chg (((Chg.refl Nil _).alloc _).alloc _) (fun h=>h)
 have hB4:Box w2 b4 [.slice none 0 0] 120:=by
  have h:=Box.new (w.alloc (.cells #[.pointer (some ⟨st,0,none⟩)] 33)) [.slice none 0 0] 120
  have e:(w.alloc (.cells #[.pointer (some ⟨st,0,none⟩)] 33)).heap.size=b4:=by simp;omega
  rw[e] at h;rw[←hw2,←hw1];exact h.chg ((((Chg.refl Nil _).alloc _).alloc _).alloc _) (fun h=>h)
 have hB2:Box w2 b2 [.pointer (some ⟨st,0,none⟩)] 33:=by
  have h:=Box.new w [.pointer (some ⟨st,0,none⟩)] 33
  rw[hb2] at h;rw[←hw2,←hw1];exact h.chg (((((Chg.refl Nil _).alloc _).alloc _).alloc _).alloc _) (fun h=>h)
 have hstl:st<b2:=by have:=(Array.getElem?_eq_some_iff.1 hb).1;omega
 have h0:RdI (bm+3) w st b2 b4 b5 b6 p c1 c2 c3 [] w2:=⟨[],[],.slice none 0 0,.slice none 0 0,[],rfl,⟨hb.chg hc2 (fun h=>h),World.ownsRow_nil _ _ _ _,rfl,fun i hi=>absurd hi (Nat.not_lt_zero _),fun k hk=>(by cases hk),List.nodup_nil⟩,⟨hB6,World.ownsRow_nil _ _ _ _,rfl,fun i hi=>absurd hi (Nat.not_lt_zero _),fun k hk=>(by cases hk)⟩,hB2,hB4,hB5,hc2.weak fun _ h=>h.elim⟩
 rw[hw2,hs1,hb2,hb4,hb5,hb6];have HB:=Lib.hid hb
 have HBT:=Lib.hid hbT
 have HORD:Hid (st<b2∧w.heap.size=b2∧b4=b2+1∧b5=b2+2∧b6=b2+3∧bm=b2+4):=⟨hstl,hb2,by omega,by omega,by omega,by omega⟩
 clear hw1 hw2 hb hbT hB6 hB5 hB4 hB2 hc1 hc2 hb2 hb4 hb5 hb6 hbm hstl hs1;refine wpIn_range_lines (by omega) (Nat.le_trans HS.out (by omega)) rfl HBT.out rfl (RdI (bm+3) w st b2 b4 b5 b6 p c1 c2 c3) (RdX w st b4 b5 text.data.toList) ?hI ?hIx h0
  (fun x=>{ tmps:=#[.pointer (some ⟨st,0,none⟩),.string text,.pointer (some ⟨b2,0,none⟩),undef,.pointer (some ⟨b4,0,none⟩),.pointer (some ⟨b5,0,none⟩),.pointer (some ⟨b6,0,none⟩),.string x,undef,undef,undef,undef,undef,undef,undef,.string text,.func (.func 181) #[] #[.pointer (some ⟨bm,0,none⟩)],.string x,undef,undef,undef,undef,undef,undef,undef,undef,undef,undef,undef,undef,undef,undef,undef,undef,undef,undef,undef,undef,undef,undef,undef,undef,undef,undef,undef,undef,undef,undef,undef,undef,undef,undef,undef,undef,undef,undef,undef,undef,undef,undef,undef,undef,undef,undef,undef,undef,undef,undef,undef,undef,undef,undef,undef,undef,undef,undef,undef,undef,undef,undef,undef,undef,undef,undef,undef,undef,undef,undef,undef,undef,undef,undef,undef,undef,undef,undef,undef],defers:=[] }) ?assign ?body ?done ?stop
 case hI=>
  rintro pre W W' ⟨ts,es,va,sv,vs,k1,k2,k3,k4,k5,k6,k7⟩ hc
  have ho:=HORD.out
  rw[hs2] at hc;refine⟨ts,es,va,sv,vs,k1,k2.chg hc (by omega) (fun k hk=>by have:=k2.own k hk;omega) (fun i hi=>by have:=(k2.ent i hi (by rw[←k2.len];exact hi)).2;omega),k3.chg hc (by omega) (fun k hk=>by have:=k3.own k hk;omega) (fun i hi k hk=>by have:=(k3.each i hi (by rw[←k3.len];exact hi)).2 k hk;omega),k4.chg hc (by omega),k5.chg hc (by omega),k6.chg hc (by omega),k7.trans hc (fun k hk=>.inr (by omega))⟩
 case hIx=>
  rintro W W' ⟨k1,k5,k6,k7⟩ hc
  have ho:=HORD.out
  rw[hs2] at hc;exact⟨k1,k5.chg hc (by omega),k6.chg hc (by omega),k7.trans hc (fun k hk=>.inr (by omega))⟩
 case assign=>
  intro l x W K hK;gi_wp2
  exact hK
 case body=>
  intro l pre x W hpx hI hz;obtain⟨ts,es,va,sv,vs,k1,k2,k3,k4,k5,k6,k7⟩:=hI
  obtain⟨hxl,hpl⟩:=yields_bound hpx
  have hS:=HS.out
  have hxs:x.size≤2000:=by rw[size_eq] at hS ⊢;omega
  have HTL:Hid (ts.length<2000):=by
   have h1:=listT_len k1
   rw[List.length_map] at h1;rw[size_eq] at hS;show ts.length<2000
   omega
  have hcx:(chop x.data.toList).length≤x.data.toList.length:=by
   unfold chop;split
   ·rw[List.length_take];omega
   ·exact Nat.le_refl _
  have hst:=suffix_any x W (by omega)
  have hsp:=fun M=>split_any ⟨(chop x.data.toList).toArray⟩ 32 W (by rw[size_eq];rw[size_eq] at hxs;exact Nat.le_trans hcx (by omega)) M
  have hsp:=hsp (HT2.out W k7).2
  have HPX:=Lib.hid hpx
  have HI:=Lib.hid (show RdI (bm+3) w st b2 b4 b5 b6 p c1 c2 c3 pre W from⟨ts,es,va,sv,vs,k1,k2,k3,k4,k5,k6,k7⟩)
  have K1:=Lib.hid k1
  have K2:=Lib.hid k2
  have K3:=Lib.hid k3
  have K4:=Lib.hid k4
  have K5:=Lib.hid k5
  have K6:=Lib.hid k6
  have K7:=Lib.hid k7
  have HXS:=Lib.hid hxs
  have HCX:=Lib.hid hcx
  have HZ:=Lib.hid hz
  clear k1 k2 k3 k4 k5 k6 k7 hpx hxl hpl hS hxs hcx hz h0;have hf1:Fence.wide.fn 115:=trivial
  have hf2:Fence.wide.fn 57:=trivial
  have hf3:Fence.wide.fn 53:=trivial
  have hf4:Fence.wide.fn 59:=trivial
  have hf5:Fence.wide.fn 108:=trivial
  gi_upto_region 5 with (first
   | (gi_at_call 115;refine (Ch.callsIn_round hst).mono ?_;rintro e w' ⟨rfl,rfl⟩)
   | (gi_at_call 57;refine (Ch.callsIn_round hsp).mono ?_;rintro e w' ⟨ws,hws,rfl,rfl⟩))
  obtain⟨g,hg⟩:∃ g,W.heap.size=g:=⟨_,rfl⟩
  obtain⟨W1,hW1⟩:∃ W1,W.alloc (.cells (ws.map Value.string).toArray 9)=W1:=⟨_,rfl⟩
  have hc1:Chg Nil W W1:=by rw[←hW1];exact (Chg.refl Nil W).alloc _
  have hBW:Box W1 g (ws.map Value.string) 9:=by
   rw[←hW1,←hg];exact Box.new W (ws.map Value.string) _
  have hwl:ws.length≤2001:=by
   have h1:=congrArg List.length hws
   have h2:=cutAt_len (c:=32) (chop x.data.toList)
   have h3:=HCX.out
   have h4:=HXS.out
   rw[size_eq] at h4;rw[List.length_map] at h1;omega
  have hws1:∀ y∈ws,y.size≤2000:=fun y hy=>by
   have h1:y.data.toList∈cutAt 32 (chop x.data.toList):=by rw[←hws];exact List.mem_map_of_mem hy
   have h2:=cutAt_piece h1
   have h3:=HCX.out
   have h4:=HXS.out
   rw[size_eq] at h4 ⊢
   omega
  rw[hg,hW1];have HERR:Hid (∀ W',Chg Nil W W'→wordsT (ws.map (·.data.toList))=none→Keep3 (bm+1) bm W ((W'.setCell ⟨b4,0,none⟩ (.slice none 0 0)).setCell ⟨b5,0,none⟩ (errD 15))∧RdX w st b4 b5 text.data.toList ((W'.setCell ⟨b4,0,none⟩ (.slice none 0 0)).setCell ⟨b5,0,none⟩ (errD 15))):=fun W' hc' hno=>by
   have ho:=HORD.out
   have h45:¬b5=b4:=by omega
   have hs5:Chg (fun k=>k=b4∨k=b5) W ((W'.setCell ⟨b4,0,none⟩ (.slice none 0 0)).setCell ⟨b5,0,none⟩ (errD 15)):=((hc'.weak fun _ h=>h.elim).setCell (.inl (.inl rfl)) _).setCell (.inl (.inr rfl)) _
   refine⟨⟨hs5.size,fun k hk=>hs5.block k (by have:=HZ.out;omega) (by omega)⟩,?_,?_,?_,?_⟩
   ·rw[←chop_yields];obtain⟨rest,hr⟩:=HPX.out
    rw[←hr,List.map_append,List.map_append,List.append_assoc];refine listT_bad ?_
    rw[lineT_words,←hws];exact hno
   ·exact ((K5.out.chg hc' (fun h=>h)).set 0 _).chg ((Chg.refl (fun k=>k=b5) _).setCell (.inl rfl) _) (fun e=>h45 e.symm)
   ·exact (((K6.out.chg hc' (fun h=>h)).chg ((Chg.refl (fun k=>k=b4) W').setCell (.inl rfl) _) h45)).set 0 _
   ·exact K7.out.trans hs5 (fun k hk=>.inr (by omega))
  have HWS:=Lib.hid hws
  have HC1:=Lib.hid hc1
  have HBW:=Lib.hid hBW
  have HW1:=Lib.hid hws1
  clear hws hc1 hBW hws1 hg hst hsp;have d4:=(K5.out.chg HC1.out (fun h=>h)).cell (j:=0) rfl
  have d5:=(K6.out.chg HC1.out (fun h=>h)).cell (j:=0) rfl
  have f4:=(K5.out.chg HC1.out (fun h=>h)).free 0
  have f5:=(K6.out.chg HC1.out (fun h=>h)).free 0
  have h45:¬b5=b4:=by have:=HORD.out;omega
  have HL3:Hid (headT (ws.map (·.data.toList))=true→∃ nm cm x1 r,ws=nm::cm::x1::r):=fun h=>by
   match ws,h with
   | [],h=>cases h
   | [_],h=>cases h
   | [_,_],h=>cases h
   | nm::cm::x1::r,_=>exact⟨nm,cm,x1,r,rfl⟩
  gi_cut [42] from 21 (fun v42 wr=>∃ b,v42 = .bool b∧Hid (b = !headT (ws.map (·.data.toList)))∧Hid (Chg Nil W1 wr))
  case first=>
   by_cases hfew:ws.length<3
   ·have hz3:(ws.length:Int)<3:=by omega
    have HNO:Hid (true = !headT (ws.map (·.data.toList))):=by
     rw[headT_few (by rw[List.length_map];exact hfew)]
     rfl
    clear hfew hW1;gi_wp2
    gi_meet
    exact⟨_,rfl,HNO,Chg.refl _ _⟩
   have h3:3≤ws.length:=by omega
   have hz3:¬(ws.length:Int)<3:=by omega
   have hi0:(0:Int)<(ws.length:Int):=by omega
   have hi1:(1:Int)<(ws.length:Int):=by omega
   obtain⟨nm,cm,x1,r,hwsE⟩:∃ nm cm x1 r,ws=nm::cm::x1::r:=by
    match ws,h3 with
    | nm::cm::x1::r,_=>exact⟨nm,cm,x1,r,rfl⟩
   have p0:W1.cell? ⟨g,0,none⟩=some (.string nm):=HBW.out.cell (j:=0) (by rw[hwsE];rfl)
   have p1:W1.cell? ⟨g,1,none⟩=some (.string cm):=HBW.out.cell (j:=1) (by rw[hwsE];rfl)
   have hnm:nm.size≤9223372036854775807:=Nat.le_trans (HW1.out nm (by rw[hwsE];simp)) (by omega)
   have HNM:=Lib.hid (topic_any nm W1 hnm)
   have HHD:Hid (headT (ws.map (·.data.toList))=(nameOk 10 cutTopic nm.data.toList&&(cm.data.toList==[48]||cm.data.toList==[49]))):=by rw[hwsE];rfl
   generalize headT (ws.map (·.data.toList))=hd at *;generalize nameOk 10 cutTopic nm.data.toList=ok at *
   have hcl:cm.toList=cm.data.toList:=list_toList cm
   rw[←hcl] at HHD;clear hwsE hnm h3 hfew hW1 hcl;gi_wp2_with (gi_at_call 53;refine (Ch.callsIn_round HNM.out).mono ?_;rintro e w' ⟨rfl,hB⟩;have HC2:=Lib.hid (Chg.of_below hB Nil);replace p0:=HC2.out.cell p0 (fun h=>h);replace p1:=HC2.out.cell p1 (fun h=>h);clear hB)
   all_goals (gi_meet;refine⟨_,rfl,?_,HC2⟩;show _=_;rw[HHD.out];simp[*])
  case rest=>
   obtain⟨b,rfl,hb,hcr⟩:=hcut
   replace d4:=hcr.out.cell d4 (fun h=>h)
   replace d5:=hcr.out.cell d5 (fun h=>h)
   replace f4:=((K5.out.chg HC1.out (fun h=>h)).chg hcr.out (fun h=>h)).free 0
   replace f5:=((K6.out.chg HC1.out (fun h=>h)).chg hcr.out (fun h=>h)).free 0
   have HC:=Lib.hid (HC1.out.trans hcr.out (fun _ h=>.inl h))
   cases b with
   | true=>
    have HNO:=Lib.hid (wordsT_head (l:=ws.map (·.data.toList)) (by have h:=hb.out;cases hh:headT (ws.map (·.data.toList)) with | false=>rfl | true=>rw[hh] at h;cases h))
    clear hb hcr hW1;gi_wp2
    have h:=HERR.out wc HC.out HNO.out
    rw[←hs2] at h;exact h
   | false=>
    have hhd:headT (ws.map (·.data.toList))=true:=by have h:=hb.out;cases hh:headT (ws.map (·.data.toList)) with | true=>rfl | false=>rw[hh] at h;cases h
    obtain⟨nm,cm,x1,r,hwsE⟩:=HL3.out hhd
    have HWT:Hid ((cm.data.toList=[48]∨cm.data.toList=[49])∧wordsT (ws.map (·.data.toList))=(numsT ((x1::r).map (·.data.toList))).map fun l=>⟨nm.data.toList,cm.data.toList==[49],l⟩):=by
     rw[hwsE] at hhd ⊢
     exact wordsT_of hhd
    have hBW:=HBW.out.chg hcr.out (fun h=>h)
    have p0:wc.cell? ⟨g,0,none⟩=some (.string nm):=hBW.cell (j:=0) (by rw[hwsE];rfl)
    have p1:wc.cell? ⟨g,1,none⟩=some (.string cm):=hBW.cell (j:=1) (by rw[hwsE];rfl)
    have HBC:=Lib.hid hBW
    obtain⟨nr,hnr⟩:∃ nr,(x1::r).length=nr:=⟨_,rfl⟩
    have hwn:(ws.length:Int)-2=(nr:Int):=by rw[hwsE,←hnr];simp;omega
    have hnb:(nr:Int)≤2001:=by omega
    have HNR:=Lib.hid hnr
    have HYS:Hid (∀ y∈x1::r,y.size≤2000):=fun y hy=>HW1.out y (by rw[hwsE];exact List.mem_cons_of_mem _ (List.mem_cons_of_mem _ hy))
    have h3:3≤ws.length:=by rw[hwsE];simp
    have hi0:(0:Int)<(ws.length:Int):=by omega
    have hi1:(1:Int)<(ws.length:Int):=by omega
    have hi0n:0<ws.length:=by omega
    have hi1n:1<ws.length:=by omega
    have HWE:=Lib.hid hwsE
    have HWL:=Lib.hid hwl
    obtain⟨cp,hcp⟩:∃ cp,(cm.data.toList==[49])=cp:=⟨_,rfl⟩
    rw[hcp] at HWT;rw[←list_toList cm] at hcp
    clear hhd hb hcr hW1 hBW hwsE hwl HL3 HW1 HBW HC1 hnr;gi_upto_region 7 with fail
    refine Ch.wpIn_region_chain _ (fun ⟨_,_,h⟩=>h) (by kernel_rfl) (Chg Nil) [12] (fun vs w=>match vs with | []=>True | v::_=>∃ q,v = .pointer (some ⟨q,0,none⟩)∧wc.heap.size≤q∧Box w q [.string nm,.int .i64 (nr:Nat),.bool cp,.slice none 0 0] 126) (by kernel_rfl) (fun _=>Chg.refl _ _) (fun _ _ _ h k=>h.trans k (fun _ h=>.inl h)) [[],[0],[1],[],[3],[4],[],[6],[7],[8],[2,5,9],[10],[11],[12]] rfl (by kernel_rfl) (by kernel_rfl) (Chg.refl _ _).drew ?_ ?_
    ·trivial
    iterate 2 ((with_reducible apply Ch.Walk.eq);(case hd=>rfl);(case hi=>rfl);case h=>(intro w2 hw2 N hN;simp only[Ch.depB];go_simp;(try go_bits);with_reducible exact hN _ (Chg.refl _ _) (fun _ h=>h)))
    ((with_reducible apply Ch.Walk.eq);(case hd=>rfl);(case hi=>rfl);case h=>(intro w2 hw2 N hN;(have hq:=hw2.cell p0 (fun h=>h));simp only[Ch.depB];go_simp;(try go_bits);with_reducible exact hN _ (Chg.refl _ _) (fun _ h=>h)))
    iterate 2 ((with_reducible apply Ch.Walk.eq);(case hd=>rfl);(case hi=>rfl);case h=>(intro w2 hw2 N hN;simp only[Ch.depB];go_simp;(try go_bits);with_reducible exact hN _ (Chg.refl _ _) (fun _ h=>h)))
    simp only[List.nil_append,List.cons_append]
    refine Ch.Walk.eq (c:=.int .i64 (nr:Nat)) rfl rfl ?_ ?_
    ·intro w2 hw2 N hN;simp only[Ch.depB,Ch.depC,Nat.reduceBEq,Nat.reduceAdd]
     go_simp;try go_bits
     exact hN _ (Chg.refl _ _) (fun _ h=>h)
    simp only[List.nil_append,List.cons_append]
    iterate 2 ((with_reducible apply Ch.Walk.eq);(case hd=>rfl);(case hi=>rfl);case h=>(intro w2 hw2 N hN;simp only[Ch.depB];go_simp;(try go_bits);with_reducible exact hN _ (Chg.refl _ _) (fun _ h=>h)))
    ((with_reducible apply Ch.Walk.eq);(case hd=>rfl);(case hi=>rfl);case h=>(intro w2 hw2 N hN;(have hq:=hw2.cell p1 (fun h=>h));simp only[Ch.depB];go_simp;(try go_bits);with_reducible exact hN _ (Chg.refl _ _) (fun _ h=>h)))
    refine Ch.Walk.eq (c:=.bool cp) rfl rfl ?_ ?_
    ·intro w2 hw2 N hN;simp only[Ch.depB,Ch.depC,Nat.reduceBEq,Nat.reduceAdd]
     go_simp;exact hN _ (Chg.refl _ _) (fun _ h=>h)
    simp only[List.nil_append,List.cons_append]
    iterate 2 ((with_reducible apply Ch.Walk.eq);(case hd=>rfl);(case hi=>rfl);case h=>(intro w2 hw2 N hN;simp only[Ch.depB];go_simp;(try go_bits);with_reducible exact hN _ (Chg.refl _ _) (fun _ h=>h)))
    simp only[List.nil_append,List.cons_append]
    refine Ch.Walk.chain 0 rfl rfl ?_ ?_
    ·intro w2 hw2 vs hvs hF N hN;obtain rfl:=List.eq_nil_of_length_eq_zero hvs
     clear hF;simp only[Ch.depB,Ch.depC,Nat.reduceBEq,Nat.reduceAdd]
     go_simp;have hal:=(Chg.refl Nil w2).alloc (.cells #[.string nm,.int .i64 (nr:Nat),.bool cp,.slice none 0 0] 126)
     exact hN _ _ hal ⟨_,rfl,hw2.size,Box.new w2 [.string nm,.int .i64 (nr:Nat),.bool cp,.slice none 0 0] _⟩
    simp only[List.nil_append,List.cons_append]
    refine Ch.Walk.copy 12 rfl rfl rfl ⟨rfl,56,.inr rfl,rfl⟩ ?_
    simp only[List.nil_append,List.cons_append]
    intro we hwe;simp only[List.nil_append,List.cons_append,Ch.Fin,List.map_cons,List.map_nil,List.getD_cons_zero,List.getD_cons_succ]
    intro ve _ hF;obtain⟨q,rfl,hqs,hbq⟩:=hF
    have HQ:=Lib.hid hqs
    have HBQ:=Lib.hid hbq
    have HWE2:=Lib.hid hwe
    obtain⟨xs,hxs⟩:∃ xs,x1::r=xs:=⟨_,rfl⟩
    rw[hxs] at HNR HWE HWT HYS
    have hle2:(2:Int)≤(ws.length:Int):=by omega
    have h2n:2≤ws.length:=by omega
    have hwn2:ws.length-2=nr:=by omega
    have HWN:=Lib.hid hwn2
    clear hqs hbq hwe p0 p1 hcp hxs hi0 hi1 hi0n hi1n;gi_wp2
    gi_loopw [10,60] (fun lv iv wr=>∃ (wq:World) (k:Nat) (l:List Int),wq=wr∧k≤nr∧iv = .int .i64 k∧Hid (OwnZ wr lv l)∧Hid (numsT ((xs.take k).map (·.data.toList))=some l)∧Hid (∀ b,lv.ownBlock=some b→we.heap.size≤b)∧Hid (Chg Nil we wr)) (fun _ iv _=>nr-(RowKit.intOf iv).toNat)
    case atStart=>exact⟨_,0,[],rfl,Nat.zero_le _,rfl,OwnZ.nil _,rfl,fun b hb=>(by cases hb),Chg.refl _ _⟩
    case round=>
     obtain⟨wr,k,zl,rfl,hk,rfl,HZL,HNT,HOB,HCR⟩:=hrel
     have HCA:=Lib.hid (HWE2.out.trans HCR.out (fun _ h=>.inl h))
     have HCW:=Lib.hid (HC.out.trans HCA.out (fun _ h=>.inl h))
     replace d4:=HCA.out.cell d4 (fun h=>h)
     replace d5:=HCA.out.cell d5 (fun h=>h)
     replace f4:=(K5.out.chg HCW.out (fun h=>h)).free 0
     replace f5:=(K6.out.chg HCW.out (fun h=>h)).free 0
     by_cases hin:k<nr
     ·have hki:(k:Int)<(nr:Int):=by omega
      have hk1:(k:Int)+1≤3000:=by omega
      have hxl:k<xs.length:=by rw[HNR.out];exact hin
      obtain⟨y,hy⟩:∃ y,xs[k]=y:=⟨_,rfl⟩
      have py:wr.cell? ⟨g,2+k,none⟩=some (.string y):=(HBC.out.chg HCA.out (fun h=>h)).cell (j:=2+k) (by
       rw[HWE.out,List.getElem?_map,Nat.add_comm 2 k]
       show (xs[k]?).map _=_
       rw[List.getElem?_eq_getElem hxl,hy]
       rfl)
      have hys:y.size≤1000000:=by
       have h9:=HYS.out y (by rw[←hy];exact List.getElem_mem hxl)
       omega
      have HTB:=Lib.hid (HT2.out wr (K7.out.trans HCW.out (fun _ h=>h.elim))).1
      have HAT:=Lib.hid (atoiBig_any HTB.out y hys)
      have HTR:=Lib.hid (fun W=>trimD_any y W hys)
      have htk:(xs.take (k+1)).map (·.data.toList)=(xs.take k).map (·.data.toList)++[y.data.toList]:=by rw[List.take_succ_eq_append_getElem hxl,hy,List.map_append];rfl
      have HTK:=Lib.hid htk
      have HBAD:Hid (numT y.data.toList=none→wordsT (ws.map (·.data.toList))=none):=fun hno=>by
       have e:xs=xs.take k++y::xs.drop (k+1):=by rw[←hy,List.getElem_cons_drop,List.take_append_drop]
       rw[HWT.out.2,e,List.map_append,List.map_cons,numsT_bad hno]
       rfl
      have HPY:=Lib.hid py
      obtain⟨i0,hi0,hz0,hz1,hz2⟩:=info_parts (show (Tryz.prog.info? 3).map (fun i=>(i.zero,i.size,i.bytes))=some (some (.int .i64 0),1,8) by kernel_rfl)
      have hk2:2+(k:Int)<(ws.length:Int):=by omega
      have HKI:Hid ((k:Int)<(nr:Int)):=hki
      clear hys hy hxl htk HTB hwn;gi_wp2_with fail
      refine (Ch.callsIn_round HAT.out).mono ?_
      rintro e w8 ⟨hc8,⟨v,hv,rfl⟩ | ⟨hno,v,t,N,rfl⟩⟩
      ·replace d4:=hc8.cell d4 (fun h=>h)
       replace d5:=hc8.cell d5 (fun h=>h)
       replace f4:=((K5.out.chg HCW.out (fun h=>h)).chg hc8 (fun h=>h)).free 0
       replace f5:=((K6.out.chg HCW.out (fun h=>h)).chg hc8 (fun h=>h)).free 0
       have HC8:=Lib.hid hc8
       have HV:=Lib.hid hv
       clear hc8 hv py;gi_wp2_with fail
       refine (Ch.callsIn_round (HTR.out w8)).mono ?_
       rintro e w9 ⟨t,rfl,ht,hc9⟩
       have HC9:=Lib.hid hc9
       replace d4:=hc9.cell d4 (fun h=>h)
       replace d5:=hc9.cell d5 (fun h=>h)
       replace f4:=(((K5.out.chg HCW.out (fun h=>h)).chg HC8.out (fun h=>h)).chg hc9 (fun h=>h)).free 0
       replace f5:=(((K6.out.chg HCW.out (fun h=>h)).chg HC8.out (fun h=>h)).chg hc9 (fun h=>h)).free 0
       by_cases htt:t=⟨#[]⟩
       ·have HNY:Hid (numT y.data.toList=some v):=by
         show (match atoiAll y.data.toList with | .ok v=>if y.data.toList.all (digitsC.contains ·) then some v else none | _=>none)=_
         rw[HV.out];exact if_pos (ht.1 htt)
        subst htt;have hza:w9.ownsRow 0 3 1 u10 zl.length (zl.map fun n=>Value.int .i64 n):=((HZL.out.chg HC8.out (fun _ _ h=>h)).chg hc9 (fun _ _ h=>h))
        have hzl:=numsT_len HNT.out
        have HZN:Hid (zl.length≤3000):=by
         rw[List.length_map,List.length_take] at hzl;have h1:=HKI.out
         show zl.length≤3000
         omega
        have HZA:=Lib.hid (hza.alloc (.cells #[.int .i64 v] 3))
        clear hc9 ht hza hzl;gi_wp2_with (gi_at_builtin;go_must (refine wpListIn_append_own_at _ rfl _ _ 89 rfl 0 3 i0 (.int .i64 0) 1 8 Tryz.underlying89 hi0 hz0 hz1 hz2 rfl (by decide) _ _ _ rfl HZA.out ⟨_,0,none⟩ 1 1 [.int .i64 v] rfl rfl (cell_one_new _ _ _) (by intro u hu;rw[List.mem_singleton.1 hu];rfl) (by have:=HZN.out;unfold maxLen;omega) (by have:=HZN.out;omega) (Nat.zero_le _) ?_);intro v' w10 hown' hgrow _ hnw;have HOW:=Lib.hid hown';have HGR:=Lib.hid hgrow;have HNW:=Lib.hid hnw;clear hown' hgrow hnw)
        have HC10:Hid (Chg Nil we w10):=((((HCR.out.trans HC8.out (fun _ h=>.inl h)).trans HC9.out (fun _ h=>.inl h)).alloc (.cells #[.int .i64 v] 3)).grown HGR.out (fun b hb=>.inr (HOB.out b hb)))
        go_roundw
        case rel=>
         refine⟨_,k+1,zl++[v],rfl,by omega,by simp,?_,?_,?_,HC10⟩
         ·show OwnZ w10 v' (zl++[v])
          unfold OwnZ;rw[List.length_append,List.map_append];exact HOW.out
         ·show _=_
          rw[HTK.out];exact numsT_snoc _ _ HNT.out HNY.out
         ·intro b hb;rcases HNW.out with h | h
          ·rw[hb] at h;exact HOB.out b h.symm
          ·rw[hb] at h;have:=Option.some.inj h
           have h1:=((HCR.out.trans HC8.out (fun _ h=>.inl h)).trans HC9.out (fun _ h=>.inl h)).size
           rw[World.size_alloc] at this;omega
        case measure=>simp[RowKit.intOf];omega
       ·have HNY:Hid (numT y.data.toList=none):=by
         show (match atoiAll y.data.toList with | .ok v=>if y.data.toList.all (digitsC.contains ·) then some v else none | _=>none)=_
         rw[HV.out];exact if_neg (fun h=>htt (ht.2 h))
        have htl:t.toList.isEmpty=false:=by
         cases hz:t.toList with
         | nil=>exact absurd (by rw[list_toList] at hz;rw[←ba_list t,hz]) htt
         | cons _ _=>rfl
        clear hc9 ht htt;gi_wp2
        have h:=HERR.out w9 (HCW.out.trans (HC8.out.trans HC9.out (fun _ h=>.inl h)) (fun _ h=>.inl h)) (HBAD.out HNY.out)
        exact h
      ·have HNY:Hid (numT y.data.toList=none):=by
        show (match atoiAll y.data.toList with | .ok v=>if y.data.toList.all (digitsC.contains ·) then some v else none | _=>none)=_
        split
        ·next v9 e9=>exact absurd e9 (hno v9)
        ·rfl
       replace d4:=hc8.cell d4 (fun h=>h)
       replace d5:=hc8.cell d5 (fun h=>h)
       replace f4:=((K5.out.chg HCW.out (fun h=>h)).chg hc8 (fun h=>h)).free 0
       replace f5:=((K6.out.chg HCW.out (fun h=>h)).chg hc8 (fun h=>h)).free 0
       have HC8:=Lib.hid hc8
       clear hc8 hno py;gi_wp2
       have h:=HERR.out w8 (HCW.out.trans HC8.out (fun _ h=>.inl h)) (HBAD.out HNY.out)
       exact h
     ·have hkn:k=nr:=by omega
      subst hkn;obtain⟨za,zn,zc,rfl⟩:=ownsRow_form HZL.out
      have hnt:numsT (xs.map (·.data.toList))=some zl:=by
       have h:=HNT.out
       rw[List.take_of_length_le (by rw[HNR.out];exact Nat.le_refl _)] at h
       exact h
      have HTP:Hid (lineT (chop x.data.toList)=some ⟨nm.data.toList,cp,zl⟩):=by
       show _=_
       rw[lineT_words,←HWS.out,HWT.out.2,hnt];rfl
      have hzl:=numsT_len hnt
      rw[List.length_map,HNR.out] at hzl;have HZE:=Lib.hid hzl
      have hB2:=(K4.out.chg HCW.out (fun h=>h)).cell (j:=0) rfl
      have hBS:=K2.out.box.chg HCW.out (fun h=>h)
      have hBV:=K3.out.box.chg HCW.out (fun h=>h)
      have m4:=hBS.cell (j:=4) rfl
      have m6:=hBV.cell (j:=0) rfl
      have hE:OwnE wr va es:=ownsRow_chg K2.out.row HCW.out (fun _ _ h=>h)
      have hV:OwnV wr sv vs:=ownsRow_chg K3.out.row HCW.out (fun _ _ h=>h)
      have HE:=Lib.hid hE
      have HVV:=Lib.hid hV
      have ho:=HORD.out
      have HN1:Hid (∀ b,(va.ownBlock=some b∨sv.ownBlock=some b)→bm+3≤b∧b<wr.heap.size):=fun b hb=>by
       rcases hb with hb | hb
       ·refine⟨K2.out.own b hb,?_⟩
        obtain⟨cur,hc⟩:=row_block hE hb
        exact (Array.getElem?_eq_some_iff.1 hc).1
       ·refine⟨K3.out.own b hb,?_⟩
        obtain⟨cur,hc⟩:=row_block hV hb
        exact (Array.getElem?_eq_some_iff.1 hc).1
      have hn2:¬(va.ownBlock=some b2∨sv.ownBlock=some b2):=fun h=>by have:=HN1.out _ h;omega
      have hns:¬(va.ownBlock=some st∨sv.ownBlock=some st):=fun h=>by have:=HN1.out _ h;omega
      have hn6:¬(va.ownBlock=some b6∨sv.ownBlock=some b6):=fun h=>by have:=HN1.out _ h;omega
      have HLE:Hid (es.length<2000):=by have h1:=K2.out.len;have h2:=HTL.out;show es.length<2000;omega
      have HLV:Hid (vs.length<2000):=by have h1:=K3.out.len;have h2:=HTL.out;show vs.length<2000;omega
      have HN2:=Lib.hid hn2
      have HNS:=Lib.hid hns
      have HN6:=Lib.hid hn6
      have HM4:=Lib.hid m4
      have HM6:=Lib.hid m6
      have HM2:=Lib.hid hB2
      have HBS:=Lib.hid hBS
      have HBV:=Lib.hid hBV
      clear hnt hzl hB2 hBS hBV m4 m6 hE hV ho hn2 hns hn6 d4 d5 f4 f5 hin hk;gi_upto_region 17 with fail
      refine Ch.wpIn_region_tail _ 14 (fun ⟨_,_,h⟩=>h) (by kernel_rfl) (Chg (fun b=>va.ownBlock=some b∨sv.ownBlock=some b)) [7,11] (TpF wr.heap.size va sv (.slice za zn zc) es q vs) (by kernel_rfl) (fun _=>Chg.refl _ _) (fun _ _ _ h k=>h.trans k (fun _ h=>.inl h)) [[],[],[1],[2],[3],[],[5],[4,6],[],[],[9],[8,10],[0],[12],[7,13],[11]] rfl (by kernel_rfl) (by kernel_rfl) (by kernel_rfl) (Chg.refl _ _).drew ?_ ?_
      ·exact TpF.nil (Chg.refl Nil _).drew [] ⟨HE.out,HVV.out⟩
      simp only[List.take_succ_cons,List.take_zero,List.drop_succ_cons,List.drop_zero,List.length_cons,List.length_nil,Nat.reduceAdd]
      ((with_reducible apply Ch.Walk.eq);(case hd=>rfl);(case hi=>rfl);case h=>(intro w2 hw2 N hN;(have hq:=hw2.cell HM2.out HN2.out);simp only[Ch.depB];go_simp;(try go_bits);with_reducible exact hN _ (Chg.refl _ _) (fun _ h=>h)))
      ((with_reducible apply Ch.Walk.eq);(case hd=>rfl);(case hi=>rfl);case h=>(intro w2 hw2 N hN;(have hq:=hw2.cell HM2.out HN2.out);simp only[Ch.depB];go_simp;(try go_bits);with_reducible exact hN _ (Chg.refl _ _) (fun _ h=>h)))
      iterate 2 ((with_reducible apply Ch.Walk.eq);(case hd=>rfl);(case hi=>rfl);case h=>(intro w2 hw2 N hN;simp only[Ch.depB];go_simp;(try go_bits);with_reducible exact hN _ (Chg.refl _ _) (fun _ h=>h)))
      ((with_reducible apply Ch.Walk.eq);(case hd=>rfl);(case hi=>rfl);case h=>(intro w2 hw2 N hN;(have hq:=hw2.cell HM4.out HNS.out);simp only[Ch.depB];go_simp;(try go_bits);with_reducible exact hN _ (Chg.refl _ _) (fun _ h=>h)))
      ((with_reducible apply Ch.Walk.eq);(case hd=>rfl);(case hi=>rfl);case h=>(intro w2 hw2 N hN;simp only[Ch.depB];go_simp;(try go_bits);with_reducible exact hN _ (Chg.refl _ _) (fun _ h=>h)))
      simp only[List.nil_append,List.cons_append]
      refine Ch.Walk.sat (NewP wr.heap.size (.pointer (some ⟨q,0,none⟩)) 123) (fun _ _ _ h k=>h.keep k (fun b hb=>(HN1.out b hb).2)) rfl rfl ?_ ?_
      ·intro w2 hw2 N hN;simp only[Ch.depB,Ch.depC,Nat.reduceBEq,Nat.reduceAdd]
       go_simp;have hal:=(Chg.refl Nil w2).alloc (.cells #[.pointer (some ⟨q,0,none⟩)] 123)
       exact hN _ _ ⟨w2.heap.size,rfl,hw2.size,Box.new w2 [.pointer (some ⟨q,0,none⟩)] _⟩ (hal.weak (fun _ h=>h.elim)) (fun vs hF=>TpF.nil hal vs hF)
      simp only[List.nil_append,List.cons_append]
      refine Ch.Walk.chain 0 rfl rfl ?_ ?_
      ·intro w2 hw2 us hus hF N hN;obtain rfl:=List.eq_nil_of_length_eq_zero hus
       have hF1:OwnE w2 va es:=hF.1
       have hF2:OwnV w2 sv vs:=hF.2
       clear hF;simp only[Ch.depB,Ch.depC,Nat.reduceBEq,Nat.reduceAdd]
       rintro v ⟨q8,rfl,hq8,hb8⟩
       have hz3:wr.heap.size≤w2.heap.size:=hw2.size
       refine Ch.if_append_row rfl (.tmp 86) (.tmp 88) 116 116 rfl entT _ Tryz.underlying116 (by intro _;simp) va es.length (es.map fun b=>Value.pointer (some ⟨b,0,none⟩)) rfl hF1 (.slice (some ⟨q8,0,none⟩) 1 1) 1 [.pointer (some ⟨q,0,none⟩)] rfl (Source.box hb8 rfl (by intro u hu;rw[List.mem_singleton.1 hu];rfl)) (by have:=HLE.out;unfold maxLen;omega) (by have:=HLE.out;omega) (fun v' w' h1 h2=>hN _ _ (h2.chg.weak (fun k hk=>.inl (.inl hk))) ?_)
       refine⟨⟨?_,fun k hk=>(h2.own k hk).imp id fun h=>Nat.le_trans hz3 h⟩,ownsRow_chg hF2 h2.chg (fun k hk e=>rows_ne hF1 hF2 (by decide) e hk)⟩
       unfold OwnE;rw[List.length_append,List.length_singleton,List.map_append,List.map_singleton];exact h1
      simp only[List.nil_append,List.cons_append]
      ((with_reducible apply Ch.Walk.eq);(case hd=>rfl);(case hi=>rfl);case h=>(intro w2 hw2 N hN;(have hq:=hw2.cell HM6.out HN6.out);simp only[Ch.depB];go_simp;(try go_bits);with_reducible exact hN _ (Chg.refl _ _) (fun _ h=>h)))
      ((with_reducible apply Ch.Walk.eq);(case hd=>rfl);(case hi=>rfl);case h=>(intro w2 hw2 N hN;simp only[Ch.depB];go_simp;(try go_bits);with_reducible exact hN _ (Chg.refl _ _) (fun _ h=>h)))
      simp only[List.nil_append,List.cons_append]
      refine Ch.Walk.sat (NewP wr.heap.size (.slice za zn zc) 89) (fun _ _ _ h k=>h.keep k (fun b hb=>(HN1.out b hb).2)) rfl rfl ?_ ?_
      ·intro w2 hw2 N hN;simp only[Ch.depB,Ch.depC,Nat.reduceBEq,Nat.reduceAdd]
       go_simp;have hal:=(Chg.refl Nil w2).alloc (.cells #[.slice za zn zc] 89)
       exact hN _ _ ⟨w2.heap.size,rfl,hw2.size,Box.new w2 [.slice za zn zc] _⟩ (hal.weak (fun _ h=>h.elim)) (fun vs hF=>TpF.nil hal vs hF)
      simp only[List.nil_append,List.cons_append]
      refine Ch.Walk.chainOne rfl rfl ?_ ?_
      ·intro w2 hw2 y hF N hN;have hF1:OwnE w2 y (es++[q]):=hF.1.1
       have hF2:OwnV w2 sv vs:=hF.2
       have hF3:=hF.1.2
       clear hF;simp only[Ch.depB,Ch.depC,Nat.reduceBEq,Nat.reduceAdd]
       rintro v ⟨q9,rfl,hq9,hb9⟩
       have hz3:wr.heap.size≤w2.heap.size:=hw2.size
       refine Ch.if_append_row rfl (.tmp 90) (.tmp 92) 120 120 rfl intsT _ Tryz.underlying120 (by intro _;simp) sv vs.length vs rfl hF2 (.slice (some ⟨q9,0,none⟩) 1 1) 1 [.slice za zn zc] rfl (Source.box hb9 rfl (by intro u hu;rw[List.mem_singleton.1 hu];rfl)) (by have:=HLV.out;unfold maxLen;omega) (by have:=HLV.out;omega) (fun v' w' h1 h2=>hN _ _ (h2.chg.weak (fun k hk=>.inl (.inr hk))) ?_)
       refine⟨⟨ownsRow_chg hF1 h2.chg (fun k hk e=>rows_ne hF1 hF2 (by decide) hk e),hF3⟩,⟨?_,fun k hk=>(h2.own k hk).imp id fun h=>Nat.le_trans hz3 h⟩⟩
       unfold OwnV;rw[List.length_append,List.length_singleton];exact h1
      simp only[List.nil_append,List.cons_append]
      iterate 2 ((with_reducible apply Ch.Walk.eq);(case hd=>rfl);(case hi=>rfl);case h=>(intro w2 hw2 N hN;simp only[Ch.depB];go_simp;(try go_bits);with_reducible exact hN _ (Chg.refl _ _) (fun _ h=>h)))
      simp only[List.nil_append,List.cons_append]
      intro w13 hw13;simp only[List.nil_append,List.cons_append,Ch.Fin,List.map_cons,List.map_nil,List.getD_cons_zero,List.getD_cons_succ]
      intro v6 _ v7 _ v10 _ v11 _ hF;have hE7:OwnE w13 v7 (es++[q]):=hF.1.1
      have ho7:=hF.1.2
      have hV11:OwnV w13 v11 (vs++[.slice za zn zc]):=hF.2.1
      have ho11:=hF.2.2
      clear hF;have f7:v7 = .slice (vA v7) (vN v7) (vC v7):=form_eq (ownsRow_form hE7)
      have f11:v11 = .slice (vA v11) (vN v11) (vC v11):=form_eq (ownsRow_form hV11)
      generalize vA v7=a7 at f7;generalize vN v7=n7 at f7;generalize vC v7=c7 at f7;generalize vA v11=a11 at f11;generalize vN v11=n11 at f11;generalize vC v11=c11 at f11;subst f7;subst f11;have hbs13:=HBS.out.chg hw13 HNS.out
      have hbv13:=HBV.out.chg hw13 HN6.out
      have g4:=hbs13.cell (j:=4) rfl
      have e4:=hbs13.free 4
      have g6:=hbv13.cell (j:=0) rfl
      have e6:=hbv13.free 0
      have h6s:¬b6=st:=by have:=HORD.out;omega
      have HE7:=Lib.hid hE7
      have HO7:=Lib.hid ho7
      have HV11:=Lib.hid hV11
      have HO11:=Lib.hid ho11
      have HBS13:=Lib.hid hbs13
      have HBV13:=Lib.hid hbv13
      have HW13:=Lib.hid hw13
      clear hE7 ho7 hV11 ho11 hbs13 hbv13 hw13;simp only[Ch.thens_cons,Ch.thens_nil,Oper.wp]
      go_simp;obtain⟨w14,hw14⟩:∃ w14,(w13.setCell ⟨st,4,none⟩ (.slice a7 n7 c7)).setCell ⟨b6,0,none⟩ (.slice a11 n11 c11)=w14:=⟨_,rfl⟩
      rw[hw14];have ho:=HORD.out
      have hz:=HZ.out
      rw[hs2] at hz;have hs14:Chg (fun b=>b=st∨b=b6) w13 w14:=by rw[←hw14];exact ((Chg.refl (fun b=>b=st∨b=b6) w13).setCell (.inl (.inl rfl)) _).setCell (.inl (.inr rfl)) _
      have hr14:Chg (fun b=>(va.ownBlock=some b∨sv.ownBlock=some b)∨b=st∨b=b6) wr w14:=(HW13.out.weak fun b hb=>.inl (.inl hb)).trans hs14 (fun b hb=>.inl (.inr hb))
      have hW14:Chg (fun b=>(va.ownBlock=some b∨sv.ownBlock=some b)∨b=st∨b=b6) W w14:=(HCW.out.weak fun _ h=>h.elim).trans hr14 (fun b hb=>.inl hb)
      have hlow:∀ b,((va.ownBlock=some b∨sv.ownBlock=some b)∨b=st∨b=b6)→b=st∨b=b6∨bm+3≤b:=fun b hb=>by
       rcases hb with hb | hb | hb
       ·exact .inr (.inr (HN1.out b hb).1)
       ·exact .inl hb
       ·exact .inr (.inl hb)
      have hEw:OwnE wr va es:=HE.out
      have hVw:OwnV wr sv vs:=HVV.out
      have hcz:=HCW.out.size
      refine⟨⟨hW14.size,fun b hb=>hW14.block b (by omega) (fun hk=>by have:=hlow b hk;omega)⟩,ts++[⟨nm.data.toList,cp,zl⟩],es++[q],.slice a7 n7 c7,.slice a11 n11 c11,vs++[.slice za zn zc],?_,⟨?_,?_,?_,?_,?_,?_⟩,⟨?_,?_,?_,?_,?_⟩,?_,?_,?_,?_⟩
      ·rw[List.map_append];exact listT_snoc _ _ K1.out HTP.out
      ·rw[←hw14];exact (HBS13.out.set 4 _).chg ((Chg.refl (fun b=>b=b6) _).setCell (.inl rfl) _) (fun e=>h6s e.symm)
      ·exact ownsRow_chg HE7.out hs14 (fun b hb hk=>by
        rcases HO7.out b hb with h | h
        ·have:=HN1.out b (.inl h);omega
        ·omega)
      ·rw[List.length_append,List.length_append,K2.out.len];rfl
      ·intro i hi hi';by_cases hil:i<es.length
       ·have hil':i<ts.length:=by rw[←K2.out.len];exact hil
        obtain⟨hb1,hb2⟩:=K2.out.ent i hil hil'
        rw[List.getElem_append_left hil,List.getElem_append_left hil']
        refine⟨(hb1.chg HCW.out (fun h=>h)).chg hr14 (fun hk=>?_),hb2⟩
        have hbw:=hb1.chg HCW.out (fun h=>h)
        rcases hk with (hk | hk) | hk | hk
        ·exact box_row_ne' hbw hEw (by decide) hk
        ·exact box_row_ne' hbw hVw (by decide) hk
        ·omega
        ·omega
       ·have hie:i=es.length:=by rw[List.length_append,List.length_singleton] at hi;omega
        subst hie;have e1:(es++[q])[es.length]=q:=by simp
        have e2:(ts++[(⟨nm.data.toList,cp,zl⟩:Tp)])[es.length]=⟨nm.data.toList,cp,zl⟩:=by
         rw[List.getElem_append_right (by rw[K2.out.len];exact Nat.le_refl _)]
         simp
        rw[e1,e2];have hbw:=HBQ.out.chg HCR.out (fun h=>h)
        have hqw:bm+3≤q:=by have h1:=HQ.out;have h2:=HC.out.size;omega
        have hcells:Tp.cells ⟨nm.data.toList,cp,zl⟩ (.slice none 0 0)=[.string nm,.int .i64 (k:Nat),.bool cp,.slice none 0 0]:=by
         unfold Tp.cells;show[Value.string ⟨nm.data.toList.toArray⟩,_,_,_]=_
         rw[ba_list,HZE.out]
        rw[hcells];refine⟨hbw.chg hr14 (fun hk=>?_),hqw⟩
        rcases hk with (hk | hk) | hk | hk
        ·exact box_row_ne' hbw hEw (by decide) hk
        ·exact box_row_ne' hbw hVw (by decide) hk
        ·omega
        ·omega
      ·intro b hb;rcases HO7.out b hb with h | h
       ·exact (HN1.out b (.inl h)).1
       ·omega
      ·rw[List.nodup_append];refine⟨K2.out.nd,by simp,fun a ha b hb=>?_⟩
       obtain rfl:=List.mem_singleton.1 hb
       obtain⟨i,hi,rfl⟩:=List.mem_iff_getElem.1 ha
       have h1:=(K2.out.ent i hi (by rw[←K2.out.len];exact hi)).1
       have h2:=(Array.getElem?_eq_some_iff.1 h1).1
       have h3:=HQ.out
       have h4:=HC.out.size
       omega
      ·rw[←hw14];exact (HBV13.out.chg ((Chg.refl (fun b=>b=st) w13).setCell (.inl rfl) _) h6s).set 0 _
      ·exact ownsRow_chg HV11.out hs14 (fun b hb hk=>by
        rcases HO11.out b hb with h | h
        ·have:=HN1.out b (.inr h);omega
        ·omega)
      ·rw[List.length_append,List.length_append,K3.out.len];rfl
      ·intro i hi hi';by_cases hil:i<vs.length
       ·have hil':i<ts.length:=by rw[←K3.out.len];exact hil
        obtain⟨hb1,hb2⟩:=K3.out.each i hil hil'
        rw[List.getElem_append_left hil,List.getElem_append_left hil']
        have hzw:OwnZ wr vs[i] ts[i].starts:=hb1.chg HCW.out (fun _ _ h=>h)
        refine⟨hzw.chg hr14 (fun b hb hk=>?_),hb2⟩
        have hge:=hb2 b hb
        rcases hk with (hk | hk) | hk | hk
        ·exact rows_ne hzw hEw (by decide) hb hk
        ·exact rows_ne hzw hVw (by decide) hb hk
        ·omega
        ·omega
       ·have hie:i=vs.length:=by rw[List.length_append,List.length_singleton] at hi;omega
        subst hie;have e1:(vs++[Value.slice za zn zc])[vs.length] = .slice za zn zc:=by simp
        have e2:(ts++[(⟨nm.data.toList,cp,zl⟩:Tp)])[vs.length]=⟨nm.data.toList,cp,zl⟩:=by
         rw[List.getElem_append_right (by rw[K3.out.len];exact Nat.le_refl _)]
         simp
        rw[e1,e2];have hzw:OwnZ wr (.slice za zn zc) zl:=HZL.out
        have hge:∀ b,(Value.slice za zn zc).ownBlock=some b→bm+3≤b:=fun b hb=>by have h1:=HOB.out b hb;have h2:=HWE2.out.size;have h3:=HC.out.size;omega
        refine⟨hzw.chg hr14 (fun b hb hk=>?_),hge⟩
        have hge:=hge b hb
        rcases hk with (hk | hk) | hk | hk
        ·exact rows_ne hzw hEw (by decide) hb hk
        ·exact rows_ne hzw hVw (by decide) hb hk
        ·omega
        ·omega
      ·intro b hb;rcases HO11.out b hb with h | h
       ·exact (HN1.out b (.inr h)).1
       ·omega
      ·exact K4.out.chg hW14 (fun hk=>by have:=hlow _ hk;omega)
      ·exact K5.out.chg hW14 (fun hk=>by have:=hlow _ hk;omega)
      ·exact K6.out.chg hW14 (fun hk=>by have:=hlow _ hk;omega)
      ·exact K7.out.trans hW14 (fun b hb=>by
        rcases hlow b hb with h | h | h
        ·exact .inl h
        ·exact .inr (by omega)
        ·exact .inr (by omega))
 case done=>
  intro W hI hK;obtain⟨ts,es,va,sv,vs,k1,k2,k3,k4,k5,k6,k7⟩:=hI
  obtain⟨sa,sn,sc,hsv⟩:=ownsRow_form k3.row
  have c6:=k3.box.cell (j:=0) rfl
  have d4:=k5.cell (j:=0) rfl
  have f4:=k5.free 0
  have d5:=k6.cell (j:=0) rfl
  have f5:=k6.free 0
  rw[hsv] at c6;have K1:=Lib.hid k1
  have K2:=Lib.hid k2
  have K3:=Lib.hid k3
  have K7:=Lib.hid k7
  have K5:=Lib.hid k5
  have K6:=Lib.hid k6
  have HSV:=Lib.hid hsv
  have HK:=Lib.hid hK
  have h45:¬b5=b4:=by have:=HORD.out;omega
  have h54:¬b4=b5:=by have:=HORD.out;omega
  clear k1 k2 k3 k4 k5 k6 k7 hsv hK h0;gi_wp2
  obtain⟨W2,hW2⟩:∃ W2,(W.setCell ⟨b4,0,none⟩ (.slice sa sn sc)).setCell ⟨b5,0,none⟩ .nilIface=W2:=⟨_,rfl⟩
  have ho:=HORD.out
  have hcs:Chg (fun k=>k=b4∨k=b5) W W2:=by rw[←hW2];exact ((Chg.refl (fun k=>k=b4∨k=b5) W).setCell (.inl (.inl rfl)) _).setCell (.inl (.inr rfl)) _
  have hKD:W2.heap[w2.heap.size]? = some (.deferred (some [])):=(hcs.block _ (Array.getElem?_eq_some_iff.1 HK.out).1 (by omega)).trans HK.out
  rw[hW2];refine⟨by simp,.inl ⟨_,_,rfl,run_takeDeferred hKD,?_⟩⟩
  have hp:=chg_putObj W2 w2.heap.size (.deferred none)
  have hall:Chg (fun k=>k=b4∨k=b5∨k=w2.heap.size) W (W2.putObj w2.heap.size (.deferred none)):=(hcs.weak fun k hk=>.inl (hk.elim .inl (fun h=>.inr (.inl h)))).trans hp (fun k hk=>.inl (.inr (.inr hk)))
  have g4:Box W2 b4 [.slice sa sn sc] 120:=by rw[←hW2];exact (K5.out.set 0 _).chg ((Chg.refl (fun k=>k=b5) _).setCell (.inl rfl) _) (fun e=>h45 e.symm)
  have g5:Box W2 b5 [.nilIface] 24:=by
   rw[←hW2];exact (K6.out.chg ((Chg.refl (fun k=>k=b4) W).setCell (.inl rfl) (.slice sa sn sc)) h45).set 0 _
  have g4:=(g4.chg hp (by omega)).cell (j:=0) rfl
  have g5:=(g5.chg hp (by omega)).cell (j:=0) rfl
  clear ho;rw[hs2] at g4 g5
  refine⟨_,results_cells2 (a:=⟨b4,0,none⟩) (b:=⟨b5,0,none⟩) (v1:=.slice sa sn sc) (v2:=.nilIface) rfl _ _ _ rfl rfl (by go_simp) (by go_simp),?_⟩
  have ho:=HORD.out
  refine⟨K7.out.trans hall (fun k hk=>.inr (by omega)),.inr ⟨ts,es,va,.slice sa sn sc,vs,?_,rfl,?_,?_,K3.out.len,?_,?_,?_⟩⟩
  ·rw[←chop_yields];exact K1.out
  ·exact (K2.out.chg hall (by omega) (fun k hk=>by have:=K2.out.own k hk;omega) (fun i hi=>by have:=(K2.out.ent i hi (by rw[←K2.out.len];exact hi)).2;omega)).low (by omega)
  ·have hv:OwnV (W2.putObj w2.heap.size (.deferred none)) sv vs:=(K3.out.chg hall (by omega) (fun k hk=>by have:=K3.out.own k hk;omega) (fun i hi k hk=>by have:=(K3.out.each i hi (by rw[←K3.out.len];exact hi)).2 k hk;omega)).row
   rw[HSV.out] at hv;exact hv
  ·exact fun i hi hi'=>((K3.out.chg hall (by omega) (fun k hk=>by have:=K3.out.own k hk;omega) (fun i hi k hk=>by have:=(K3.out.each i hi (by rw[←K3.out.len];exact hi)).2 k hk;omega)).each i hi hi').1
  ·intro b hb;have h1:=K3.out.own b (by rw[HSV.out];exact hb)
   omega
  ·intro i hi b hb;have h1:=(K3.out.each i hi (by rw[←K3.out.len];exact hi)).2 b hb
   omega
 case stop=>
  intro W hX hK;obtain⟨k1,k5,k6,k7⟩:=hX
  have d4:=k5.cell (j:=0) rfl
  have d5:=k6.cell (j:=0) rfl
  have K1:=Lib.hid k1
  have K7:=Lib.hid k7
  have HK:=Lib.hid hK
  have h45:¬b5=b4:=by have:=HORD.out;omega
  have K5:=Lib.hid k5
  have K6:=Lib.hid k6
  clear k1 k5 k6 k7 hK h0;gi_wp2
  have ho:=HORD.out
  have hKD:=HK.out
  refine⟨by simp,.inl ⟨_,_,rfl,run_takeDeferred hKD,?_⟩⟩
  have hp:=chg_putObj W w2.heap.size (.deferred none)
  have g4:=(K5.out.chg hp (by omega)).cell (j:=0) rfl
  have g5:=(K6.out.chg hp (by omega)).cell (j:=0) rfl
  clear ho;rw[hs2] at g4 g5
  refine⟨_,results_cells2 (a:=⟨b4,0,none⟩) (b:=⟨b5,0,none⟩) (v1:=.slice none 0 0) (v2:=errD 15) rfl _ _ _ rfl rfl (by go_simp) (by go_simp),?_⟩
  have ho:=HORD.out
  exact⟨K7.out.trans hp (fun k hk=>.inr (by omega)),.inl ⟨K1.out,rfl⟩⟩
end Go.Proofs.YtobegmcbfgnpnaaGreatDoor
