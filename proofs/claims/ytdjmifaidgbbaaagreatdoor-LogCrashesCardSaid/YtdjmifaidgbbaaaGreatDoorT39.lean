/-
  A region that draws its order and whose last operations stand in one forced order behind all others. Over any program. (After XLast2.)
-/
import Derived.Test.YtdjmifaidgbbaaaGreatDoorT38
set_option linter.unusedVariables false
set_option linter.unusedSimpArgs false
set_option maxHeartbeats 0
set_option maxRecDepth 200000
namespace Go.Proofs.YtdjmifaidgbbaaaGreatDoor.Ch
section
variable {P:Program} {ops:Array Oper} {Q:Exit→Act→World→Prop}
def reachL (ops:Array Oper) (o:Oper):Nat→List Nat→List Nat
 | 0,acc=>acc
 | i+1,acc=>reachL ops o i (if (o.after.any fun e=>Region.binds .any e&&e.on==i)||(acc.any fun k=>match ops[k]? with | some u=>u.after.any (fun x=>Region.binds .any x&&x.on==i) | none=>false) then i::acc else acc)
def Reached (ops:Array Oper) (o:Oper) (j:Nat):Prop:=∀ listed,Down ops listed→(∀ e∈o.after,Region.binds .any e=true→listed.getD e.on false=true)→listed.getD j false=true
theorem reachL_sound {o:Oper}:∀ (i:Nat) (acc:List Nat),(∀ j∈acc,Reached ops o j)→∀ j∈reachL ops o i acc,Reached ops o j
 | 0,_,h=>h
 | i+1,acc,h=>by
  rw[reachL];refine reachL_sound i _ fun j hj=>?_
  split at hj
  ·next hc=>
   rcases List.mem_cons.1 hj with rfl | hj
   ·rw[Bool.or_eq_true] at hc;rcases hc with hc | hc
    ·obtain⟨e,he,h5⟩:=Array.any_eq_true'.1 hc
     simp only[Bool.and_eq_true,beq_iff_eq] at h5
     intro listed _ h6;rw[←h5.2];exact h6 e he h5.1
    ·obtain⟨k,hk,h5⟩:=List.any_eq_true.1 hc
     cases hu:ops[k]? with
     | none=>rw[hu] at h5;cases h5
     | some u=>
      rw[hu] at h5;obtain⟨x,hx,h7⟩:=Array.any_eq_true'.1 h5
      simp only[Bool.and_eq_true,beq_iff_eq] at h7
      intro listed hd h6;rw[←h7.2];exact hd k u hu (h k hk listed hd h6) x hx h7.1
   ·exact h j hj
  ·exact h j hj
def lastBR (ops:Array Oper) (o:Oper):Bool:=
 o.guard.isNone&&((List.range ops.size).all fun j=>(reachL ops o ops.size []).contains j) &&
 o.after.all (fun e=>!Region.binds .any e||decide (e.on<ops.size)) &&
 ops.all fun u=>u.after.all (fun e=>!Region.binds .any e||decide (e.on<ops.size))&&match u.guard with | some (g,_)=>decide (g<ops.size) | none=>true
structure LastR (ops:Array Oper) (o:Oper):Prop where
 free:o.guard=none
 waits:∀ j,j<ops.size→Reached ops o j
 on:∀ e∈o.after,Region.binds .any e=true→e.on<ops.size
 ons:∀ u∈ops,∀ e∈u.after,Region.binds .any e=true→e.on<ops.size
 guard:∀ u∈ops,∀ g b,u.guard=some (g,b)→g<ops.size
theorem LastR.of {o:Oper}(h:lastBR ops o=true):LastR ops o:=by
 unfold lastBR at h;simp only[Bool.and_eq_true,Array.all_eq_true_iff_forall_mem,List.all_eq_true,List.mem_range,decide_eq_true_eq] at h
 obtain⟨⟨⟨h1,h2⟩,h3⟩,h4⟩:=h
 have hb:∀ e:Edge,(!Region.binds .any e||decide (e.on<ops.size))=true→Region.binds .any e=true→e.on<ops.size:=fun e h hb=>by
  rw[hb] at h;simpa using h
 refine⟨by simpa using h1,fun j hj=>?_,fun e he=>hb e (h3 e he),fun u hu e he=>hb e ((h4 u hu).1 e he),fun u hu g b hg=>?_⟩
 ·exact reachL_sound ops.size [] (by simp) j (by simpa using h2 j hj)
 ·have:=(h4 u hu).2
  rw[hg] at this;simpa using this
theorem any_lastR {o:Oper}{n:Nat}{D:List (List Nat)}(hok:Ok ops n D)(hl:LastR ops o):∀ (fuel:Nat) (listed:Array Bool) (a:Act) (w:World),listed.size=ops.size→Down ops listed→
  wpAny P .any ops (Then P o Q) fuel listed a w→wpAny P .any (ops.push o) Q (fuel+1) (listed.push false) a w:=by
 have stop:∀ (fuel:Nat) (listed:Array Bool) (a:Act) (w:World),listed.size=ops.size→Region.ready .any ops listed=[]→Then P o Q .normal a w→wpOp P (ops.push o) Q ops.size (wpAny P .any (ops.push o) Q fuel ((listed.push false).setIfInBounds ops.size true)) a w:=by
  intro fuel listed a w hsz hr ht;have hall:=all_listed hok hsz hr
  unfold wpOp;rw[show (ops.push o)[ops.size]? = some o by simp]
  simp only
  rw[if_pos (by unfold Region.wanted;rw[hl.free])]
  refine .inl (Oper.wp_mono (fun a w hq=>any_done (fun i hi=>?_) hq) ht)
  simp only[Array.size_push] at hi
  simp only[Array.getD_eq_getD_getElem?,Array.getElem?_setIfInBounds]
  by_cases e:ops.size=i
  ·subst e;simp[hsz]
  ·rw[if_neg e]
   have:=hall i (by omega)
   simp only[Array.getD_eq_getD_getElem?,Array.getElem?_push] at this ⊢
   rw[if_neg (by omega)]
   exact this
 have last_in:∀ (listed:Array Bool),listed.size=ops.size→Region.ready .any ops listed=[]→ops.size∈Region.ready .any (ops.push o) (listed.push false):=by
  intro listed hsz hr;have hall:=all_listed hok hsz hr
  refine mem_ready.2 ⟨o,by simp,by rw[push_getD,if_pos hsz.symm],fun e he hb=>?_⟩
  have h1:=hl.on e he hb
  rw[push_getD,if_neg (by omega)]
  have:=hall e.on h1
  rw[Array.getD_eq_getD_getElem?,Array.getElem?_eq_getElem (by omega)] at this ⊢
  exact this
 have old_in:∀ (listed:Array Bool) (i:Nat),listed.size=ops.size→i∈Region.ready .any ops listed→i∈Region.ready .any (ops.push o) (listed.push false):=by
  intro listed i hsz hi;obtain⟨u,hu,h1,h2⟩:=mem_ready.1 hi
  have hlt:=lt_size hu
  refine mem_ready.2 ⟨u,by rw[Array.getElem?_push,if_neg (by omega)];exact hu,by rw[push_getD,if_neg (by omega)];exact h1,fun e he hb=>?_⟩
  have:=hl.ons u (Array.mem_of_getElem? hu) e he hb
  rw[push_getD,if_neg (by omega)]
  exact h2 e he hb
 have in_old:∀ (listed:Array Bool) (i:Nat),listed.size=ops.size→Down ops listed→i∈Region.ready .any (ops.push o) (listed.push false)→i∈Region.ready .any ops listed∨(i=ops.size∧Region.ready .any ops listed=[]):=by
  intro listed i hsz hdown hi;obtain⟨u,hu,h1,h2⟩:=mem_ready.1 hi
  have hlt:=lt_size hu
  simp only[Array.size_push] at hlt
  by_cases e:i=ops.size
  ·refine .inr ⟨e,?_⟩
   subst e;rw[show (ops.push o)[ops.size]? = some o by simp] at hu
   obtain rfl:=Option.some.inj hu
   cases hc:Region.ready .any ops listed with
   | nil=>rfl
   | cons j l=>
    obtain⟨u,hu,hj,_⟩:=mem_ready.1 (show j∈Region.ready .any ops listed by rw[hc];exact List.mem_cons_self ..)
    have hjl:=lt_size hu
    have this:listed.getD j false=true:=hl.waits j hjl listed hdown (fun e he hb=>by
     have hel:=hl.on e he hb
     have hthis:=h2 e he hb
     rw[push_getD,if_neg (by omega)] at hthis
     exact hthis)
    rw[Array.getD_eq_getD_getElem?,Array.getElem?_eq_getElem (by omega)] at this hj
    simp only[Option.getD_some] at this hj
    rw[hj] at this;cases this
  ·refine .inl (mem_ready.2 ⟨u,by rw[Array.getElem?_push,if_neg e] at hu;exact hu,by rw[push_getD,if_neg (by omega)] at h1;exact h1,fun x hx hb=>?_⟩)
   rw[Array.getElem?_push,if_neg e] at hu
   have h3:=hl.ons u (Array.mem_of_getElem? hu) x hx hb
   have:=h2 x hx hb
   rw[push_getD,if_neg (by omega)] at this
   exact this
 intro fuel;induction fuel with
 | zero=>
  intro listed a w hsz hdown h;obtain⟨hr,ht⟩:=h
  refine⟨fun he=>?_,fun i hi=>?_⟩
  ·have:=last_in listed hsz hr
   rw[he] at this;cases this
  ·rcases in_old listed i hsz hdown hi with h1 | ⟨rfl,h1⟩
   ·rw[hr] at h1;cases h1
   ·exact stop 0 listed a w hsz hr ht
 | succ fuel ih=>
  intro listed a w hsz hdown h;obtain⟨h0,h1⟩:=h
  refine⟨fun he=>?_,fun i hi=>?_⟩
  ·by_cases hr:Region.ready .any ops listed=[]
   ·have:=last_in listed hsz hr
    rw[he] at this;cases this
   ·obtain⟨i,hi⟩:=List.exists_mem_of_ne_nil _ hr
    have:=old_in listed i hsz hi
    rw[he] at this;cases this
  ·rcases in_old listed i hsz hdown hi with hin | ⟨rfl,hr⟩
   ·have hop:=h1 i hin
    obtain⟨u,hu,_,_⟩:=mem_ready.1 hin
    have hlt:=lt_size hu
    have hset:(listed.push false).setIfInBounds i true=(listed.setIfInBounds i true).push false:=by
     apply Array.ext_getElem?
     intro k;simp only[Array.getElem?_setIfInBounds,Array.getElem?_push,Array.size_push,Array.size_setIfInBounds]
     by_cases e:i=k
     ·subst e;simp[hsz,hlt,Nat.ne_of_lt hlt,Nat.lt_succ_of_lt hlt]
     ·simp[e]
    rw[hset];unfold wpOp at hop ⊢
    rw[hu] at hop;rw[Array.getElem?_push,if_neg (by omega),hu]
    simp only at hop ⊢
    have hw:Region.wanted u (yielded (ops.push o) a.tmps)=Region.wanted u (yielded ops a.tmps):=by
     unfold Region.wanted;cases hg:u.guard with
     | none=>rfl
     | some x=>
      obtain⟨g,b⟩:=x
      have:=hl.guard u (Array.mem_of_getElem? hu) g b hg
      simp only[yielded]
      rw[Array.getElem?_push,if_neg (by omega)]
    rw[hw];split
    ·rename_i hwt
     rw[if_pos hwt] at hop
     rcases hop with h | h
     ·exact .inl (wp_then (fun a w hh=>ih _ a w (by simpa using hsz) (hdown.more hin) hh) h)
     ·exact .inr ⟨h.1,h.2⟩
    ·rename_i hwt
     rw[if_neg hwt] at hop
     exact ih _ _ _ (by simpa using hsz) (hdown.more hin) hop
   ·exact stop (fuel+1) listed a w hsz hr (h0 hr)
def Thens (P:Program):List Oper→(Exit→Act→World→Prop)→Exit→Act→World→Prop
 | [],Q=>Q
 | o::t,Q=>Then P o (Thens P t Q)
def tailB (n:Nat) (D:List (List Nat)):List Oper→List Oper→Bool
 | _,[]=>true
 | l,o::t=>okB l.toArray n (D.take l.length)&&lastBR l.toArray o&&tailB n D (l++[o]) t
theorem any_tail {n:Nat}{D:List (List Nat)}:∀ (t l:List Oper) (fuel:Nat) (listed:Array Bool) (a:Act) (w:World),tailB n D l t=true→listed.size=l.length→Down l.toArray listed→
  wpAny P .any l.toArray (Thens P t Q) fuel listed a w→wpAny P .any (l++t).toArray Q (fuel+t.length) (listed++Array.replicate t.length false) a w
 | [],l,fuel,listed,a,w,_,_,_,h=>by simpa [Thens] using h
 | o::t,l,fuel,listed,a,w,ht,hs,hd,h=>by
  rw[tailB,Bool.and_eq_true,Bool.and_eq_true] at ht;obtain⟨⟨h1,h2⟩,h3⟩:=ht
  have hL:=LastR.of h2
  have h4:=any_lastR (P:=P) (Q:=Thens P t Q) (Ok.of h1) hL fuel listed a w (by simpa using hs) hd h
  have e1:(l.toArray.push o)=(l++[o]).toArray:=by simp
  rw[e1] at h4;have hd2:Down (l++[o]).toArray (listed.push false):=by
   intro k u hu hk e he hb;have hkl:k<l.length:=by
    rw[push_getD] at hk;split at hk
    ·cases hk
    ·have:=lt_size hu
     simp at this
     omega
   have hu2:l.toArray[k]? = some u:=by
    have h5:(l++[o])[k]? = some u:=by simpa using hu
    rw[List.getElem?_append_left hkl] at h5
    simpa using h5
   have h6:=hL.ons u (Array.mem_of_getElem? hu2) e he hb
   have h7:e.on<l.length:=by simpa using h6
   rw[push_getD,if_neg (by omega)] at hk ⊢
   exact hd k u hu2 hk e he hb
  have h5:=any_tail t (l++[o]) (fuel+1) (listed.push false) a w h3 (by simp[hs]) hd2 h4
  have e2:(l++[o]++t)=l++o::t:=by simp
  have e3:fuel+1+t.length=fuel+(o::t).length:=by simp;omega
  have e4:listed.push false++Array.replicate t.length false=listed++Array.replicate (o::t).length false:=by
   apply Array.ext'
   simp[List.replicate_succ]
  rw[e2,e3,e4] at h5;exact h5
variable {R:World→World→Prop} {w0:World} {a0:Act} {D:List (List Nat)} {C:List Nat} {F:List Value→World→Prop}
theorem wp_region_tail2 {id:Nat} (all l t:List Oper)(heq:all=l++t) (R:World→World→Prop) (C:List Nat) (F:List Value→World→Prop)(hm:P.follows .mixedOrders=true)(hrefl:∀ a,R a a)(htr:∀ a b c,R a b→R b c→R a c) (D:List (List Nat)) {n:Nat}(hn:a0.tmps.size=n)
  (hok:okB l.toArray n (D.take l.length)=true)(hch:chainB l.toArray C=true)(hla:tailB n D l t=true)(hr0:R w0 { w0 with drawn:=w0.drawn+1 })(hF:F [] { w0 with drawn:=w0.drawn+1 })
  (h:Walk P l.toArray R C F w0 (Thens P t Q) a0 (D.take l.length) l []):(Code.region id all.toArray true).wp P Q a0 w0:=by
 subst hn;subst heq;have hok:=Ok.of hok
 have hC:=Chained.of hch
 obtain⟨specs,hE⟩:=each_of_walk hok l (D.take l.length) [] (by simp) (by simp) (by simp) (by simp) (by simp) (by simp) h
 refine wp_region_any hm ?_
 have hnone:∀ k,k<l.toArray.size→(Array.replicate l.toArray.size false).getD k true=false:=by
  intro k hk;have hkl:k<l.length:=by simpa using hk
  simp[Array.getD_eq_getD_getElem?,hkl]
 have e2:Array.replicate (l++t).toArray.size false=Array.replicate l.toArray.size false++Array.replicate t.length false:=by
  apply Array.ext'
  simp[List.replicate_append_replicate]
 have e3:(l++t).toArray.size=l.toArray.size+t.length:=by simp
 rw[e2,e3];refine any_tail (P:=P) (Q:=Q) t l _ _ _ _ hla (by simp) (fun k u hk hl=>by
  have hkl:k<l.length:=by have:=lt_size hk;simpa using this
  simp[Array.getD_eq_getD_getElem?,hkl] at hl) ?_
 refine any_of_each hrefl htr hok hC hE _ _ _ _ ⟨by simp,hr0,rfl,rfl,?_,fun _ _=>rfl,?_,0,Nat.zero_le _,?_,by simpa using hF⟩ ?_ ?_
 ·intro k u hk hl;rw[hnone k (lt_size hk)] at hl
  cases hl
 ·intro k u d s hk hl;rw[hnone k (lt_size hk)] at hl
  cases hl
 ·intro m c hm;rw[hnone c (hC.lt c (List.mem_of_getElem? hm))]
  simp
 ·intro i hi _ hz;rw[hz] at hi;exact absurd hi (Nat.not_lt_zero _)
 ·rw[Array.toList_replicate];exact Nat.le_trans (List.length_filter_le _ _) (by simp)
theorem wp_region_tail {id:Nat} (all:List Oper) (k:Nat) (R:World→World→Prop) (C:List Nat) (F:List Value→World→Prop)(hm:P.follows .mixedOrders=true)(hrefl:∀ a,R a a)(htr:∀ a b c,R a b→R b c→R a c) (D:List (List Nat)) {n:Nat}(hn:a0.tmps.size=n)
  (hok:okB (all.take k).toArray n (D.take (all.take k).length)=true)(hch:chainB (all.take k).toArray C=true)(hla:tailB n D (all.take k) (all.drop k)=true)(hr0:R w0 { w0 with drawn:=w0.drawn+1 })(hF:F [] { w0 with drawn:=w0.drawn+1 })
  (h:Walk P (all.take k).toArray R C F w0 (Thens P (all.drop k) Q) a0 (D.take (all.take k).length) (all.take k) []):(Code.region id all.toArray true).wp P Q a0 w0:=
 wp_region_tail2 all (all.take k) (all.drop k) (List.take_append_drop k all).symm R C F hm hrefl htr D hn hok hch hla hr0 hF h
@[go_sem] theorem thens_cons (P:Program) (o:Oper) (t:List Oper) (Q:Exit→Act→World→Prop) (a:Act) (w:World):Thens P (o::t) Q .normal a w=o.wp P a w (Thens P t Q .normal) (Thens P t Q):=rfl
@[go_sem] theorem thens_nil (P:Program) (Q:Exit→Act→World→Prop) (a:Act) (w:World):Thens P [] Q .normal a w=Q .normal a w:=rfl
end
end Go.Proofs.YtdjmifaidgbbaaaGreatDoor.Ch
namespace Go.Proofs.YtdjmifaidgbbaaaGreatDoor
open Go.RowKit Go.Maps
def OwnL (w:World) (v:Value) (l:List Bool):Prop:=w.ownsRow 0 4 1 v l.length (l.map Value.bool)
theorem OwnL.nil (w:World):OwnL w (.slice none 0 0) []:=World.ownsRow_nil w 0 _ 1
theorem boolT:SliceT Tryz.prog 54 4 1 1:=
 ⟨Tryz.underlying54,by
  have h:(Tryz.prog.info? 4).map (fun i=>(i.zero,i.size,i.bytes))=some (some (.bool false),1,1):=by kernel_rfl
  obtain⟨i,hi,hz,h1,h2⟩:=info_parts h
  exact⟨i,_,hi,hz,rfl,h1,h2⟩⟩
theorem OwnL.val {w:World}{v:Value}{l:List Bool}(h:OwnL w v l):∃ a cap,v = .slice a l.length cap∧l.length≤cap∧∀ i (h:i<l.length),∃ g,a=some ⟨g,0,none⟩∧w.cell? ⟨g,i,none⟩=some (.bool l[i]):=by
 rcases h.2 with ⟨rfl,hn⟩ | ⟨g,cap,cur,rfl,_,_,hle,_⟩
 ·exact⟨none,0,by rw[hn],by omega,fun i hi=>absurd hi (by omega)⟩
 ·have e1:∀ j,(⟨g,0,none⟩:Addr).add j=⟨g,j,none⟩:=fun j=>by unfold Addr.add;split<;>simp_all
  refine⟨some ⟨g,0,none⟩,cap,rfl,hle,fun i hi=>⟨g,rfl,?_⟩⟩
  have:=World.ownsRow.cells h (g:=g) rfl i (.bool l[i]) (by rw[List.getElem?_map,List.getElem?_eq_getElem hi];rfl)
  rwa [e1] at this
theorem rows_ne {w:World}{e e':TypeId}{sz sz' n n':Nat}{v v':Value}{xs xs':List Value}(h:w.ownsRow 0 e sz v n xs)(h':w.ownsRow 0 e' sz' v' n' xs')(hne:e≠e') {k:Nat}(hk:v.ownBlock=some k):v'.ownBlock≠some k:=fun hk'=>by
 rcases h.2 with ⟨rfl,_⟩ | ⟨g,cap,cur,rfl,_,hg,_⟩
 ·cases hk
 ·obtain rfl:g=k:=Option.some.inj hk
  rcases h'.2 with ⟨rfl,_⟩ | ⟨g',cap',cur',rfl,_,hg',_⟩
  ·cases hk'
  ·obtain rfl:g'=g:=Option.some.inj hk'
   rw[hg] at hg';exact hne (Obj.cells.inj (Option.some.inj hg')).2.1
def WHas (x:Nat) (va vg vm ve:Value) (k:Nat):Prop:=k=x∨va.ownBlock=some k∨vg.ownBlock=some k∨vm.ownBlock=some k∨ve.ownBlock=some k
def Wd.cells (W:Wd) (p l:Nat) (most:Int) (va vg vm ve:Value):List Value:=[.pointer (some ⟨p,0,none⟩),.pointer (some ⟨l,0,none⟩),.int .i64 most,va,vg,vm,ve,.int .i64 W.safe,.int .i64 W.start,.bool W.down]
structure WMem (n0:Nat) (w:World) (x p l:Nat) (most:Int) (va vg vm ve:Value) (W:Wd):Prop where
 c:Box w x (W.cells p l most va vg vm ve) 56
 a:OwnR 37 w va W.all
 g:OwnL w vg W.gone
 m:OwnL w vm W.may
 e:OwnZ w ve W.ends
 new:∀ k,WHas x va vg vm ve k→n0≤k
 gm:∀ k,vg.ownBlock=some k→vm.ownBlock≠some k
theorem WMem.lt {n0:Nat}{w:World}{x p l:Nat}{most:Int}{va vg vm ve:Value}{W:Wd}(h:WMem n0 w x p l most va vg vm ve W):∀ k,WHas x va vg vm ve k→k<w.heap.size:=by
 rintro k (rfl | hk | hk | hk | hk)
 ·exact (Array.getElem?_eq_some_iff.1 h.c).1
 ·exact ownsRow_lt h.a k hk
 ·exact ownsRow_lt h.g k hk
 ·exact ownsRow_lt h.m k hk
 ·exact ownsRow_lt h.e k hk
theorem WMem.chg {S:Nat→Prop}{n0:Nat}{w w':World}{x p l:Nat}{most:Int}{va vg vm ve:Value}{W:Wd}(h:WMem n0 w x p l most va vg vm ve W)(hc:Chg S w w')(hn:∀ k,WHas x va vg vm ve k→¬S k):WMem n0 w' x p l most va vg vm ve W:=
 ⟨h.c.chg hc (hn _ (.inl rfl)),ownsRow_chg h.a hc (fun k hk=>hn k (.inr (.inl hk))),ownsRow_chg h.g hc (fun k hk=>hn k (.inr (.inr (.inl hk)))),ownsRow_chg h.m hc (fun k hk=>hn k (.inr (.inr (.inr (.inl hk))))),ownsRow_chg h.e hc (fun k hk=>hn k (.inr (.inr (.inr (.inr hk))))),h.new,h.gm⟩
theorem WMem.ne {n0:Nat}{w:World}{x p l:Nat}{most:Int}{va vg vm ve:Value}{W:Wd}(h:WMem n0 w x p l most va vg vm ve W):va.ownBlock≠some x∧vg.ownBlock≠some x∧vm.ownBlock≠some x∧ve.ownBlock≠some x:=
 ⟨box_row_ne' h.c h.a (by decide),box_row_ne' h.c h.g (by decide),box_row_ne' h.c h.m (by decide),box_row_ne' h.c h.e (by decide)⟩
structure WS (w0 w:World) (x p l:Nat) (most:Int) (B S:Nat→Prop) (sv:Value) (ss:List (Nat×Value)) (d:Dk) (g:Lg) (va vg vm ve:Value) (W:Wd):Prop where
 lg:LgS B w p l S sv ss d g
 wm:WMem w0.heap.size w x p l most va vg vm ve W
 b0:∀ k,k<w0.heap.size→B k
 bw:∀ k,WHas x va vg vm ve k→B k
 ch:Chg Nil w0 w
 ne:0<ss.length
section
variable {w0 w w':World} {x p l:Nat} {most:Int} {B S S':Nat→Prop} {sv sv':Value} {ss ss':List (Nat×Value)} {d d':Dk} {g g':Lg} {va vg vm ve:Value} {W:Wd}
theorem WS.log (h:WS w0 w x p l most B S sv ss d g va vg vm ve W)(hl:LgS B w' p l S' sv' ss' d' g')(hc:Chg (Off B) w w')(hne:0<ss'.length):WS w0 w' x p l most B S' sv' ss' d' g' va vg vm ve W:=
 ⟨hl,h.wm.chg hc (fun k hk ho=>ho (h.bw k hk)),h.b0,h.bw,h.ch.trans hc (fun k hk=>.inr (Nat.le_of_not_lt fun hlt=>hk (h.b0 k hlt))),hne⟩
theorem WS.nil (h:WS w0 w x p l most B S sv ss d g va vg vm ve W)(hc:Chg Nil w w'):WS w0 w' x p l most B S sv ss d g va vg vm ve W:=
 ⟨h.lg.nil hc,h.wm.chg hc (fun _ _ h=>h),h.b0,h.bw,h.ch.trans hc (fun _ h=>h.elim),h.ne⟩
theorem WS.law {va' vg' vm' ve':Value}{W':Wd}(h:WS w0 w x p l most B S sv ss d g va vg vm ve W)(hc:Chg (fun k=>WHas x va vg vm ve k) w w')(hm:WMem w0.heap.size w' x p l most va' vg' vm' ve' W')(hn:∀ k,WHas x va' vg' vm' ve' k→WHas x va vg vm ve k∨w.heap.size≤k) :
  WS w0 w' x p l most (fun k=>B k∨(w.heap.size≤k∧k<w'.heap.size)) S sv ss d g va' vg' vm' ve' W':=
 ⟨h.lg.growC (hc.weak fun k hk=>.inl (h.bw k hk)),hm,fun k hk=>.inl (h.b0 k hk),fun k hk=>(hn k hk).elim (fun h1=>.inl (h.bw k h1)) (fun h1=>.inr ⟨h1,hm.lt k hk⟩),h.ch.trans hc (fun k hk=>.inr (h.wm.new k hk)),h.ne⟩
theorem WS.hand (h:WS w0 w x p l most B S sv ss d g va vg vm ve W)(hH:Handle w0):Handle w∧B 0:=⟨hH.chg h.ch (fun h=>h),h.b0 _ hH.lt⟩
end
def WPl (W:Wd) (d:Dk) (g:Lg) (m:Nat):Prop:=(∃ ys z,WUp W d g ys z m)∨(g.down=true∧W.down=true∧∃ g2 ys z,WC W d g2 ys z m)
def WSt (w0 w:World) (x p:Nat) (most:Int) (W:Wd) (m:Nat):Prop:=
 ∃ l B S sv ss d g va vg vm ve,WS w0 w x p l most B S sv ss d g va vg vm ve W∧ss.length≤m+2∧WPl W d g m
theorem WUp.needs {w0 w:World}{x p l:Nat}{most:Int}{B S:Nat→Prop}{sv:Value}{ss:List (Nat×Value)}{d:Dk}{g:Lg}{va vg vm ve:Value}{W:Wd}{ys:List SgB}{z:SgB}{m:Nat}(hu:WUp W d g ys z m)(h:WS w0 w x p l most B S sv ss d g va vg vm ve W)(hH:Handle w0)(hm:m≤100):LgN B w ss g:=
 h.lg.need hu.c.up.ok (by have:=hu.c.segs;rw[List.length_append,List.length_singleton];omega) (by rw[hu.c.dir];simp) (h.hand hH).1 (h.hand hH).2
theorem WUp.needs' {w:World}{p l:Nat}{B S:Nat→Prop}{sv:Value}{ss:List (Nat×Value)}{d:Dk}{g:Lg}{W:Wd}{ys:List SgB}{z:SgB}{m:Nat}(hu:WUp W d g ys z m)(h:LgS B w p l S sv ss d g)(hH:Handle w)(hB:B 0)(hm:m≤100):LgN B w ss g:=
 h.need hu.c.up.ok (by have:=hu.c.segs;rw[List.length_append,List.length_singleton];omega) (by rw[hu.c.dir];simp) hH hB
theorem WUp.ssl {w0 w:World}{x p l:Nat}{most:Int}{B S:Nat→Prop}{sv:Value}{ss:List (Nat×Value)}{d:Dk}{g:Lg}{va vg vm ve:Value}{W:Wd}{ys:List SgB}{z:SgB}{m:Nat}(hu:WUp W d g ys z m)(h:WS w0 w x p l most B S sv ss d g va vg vm ve W):ss.length=ys.length+1:=by
 rw[h.lg.len,hu.c.up.ok.len,List.length_append,List.length_singleton]
def NotF (n0:Nat) (u:Value) (l:List Int) (r:Int):List Value→World→Prop
 | [],w=>OwnZ w u l
 | [v],w=>OwnZ w u l∧∃ q,v = .slice (some ⟨q,0,none⟩) 1 1∧Box w q [.int .i64 r] 3
 | [_,v],w=>OwnZ w v (l++[r])∧∀ k,v.ownBlock=some k→u.ownBlock=some k∨n0≤k
 | _,_=>False
theorem NotF.nil {n0:Nat}{u:Value}{l:List Int}{r:Int}{w w':World}(hc:Chg Nil w w'):∀ vs,NotF n0 u l r vs w→NotF n0 u l r vs w'
 | [],h=>OwnZ.chg h hc (fun _ _ h=>h)
 | [v],⟨h1,q,h2,h3⟩=>⟨h1.chg hc (fun _ _ h=>h),q,h2,h3.chg hc (fun h=>h)⟩
 | [_,v],⟨h1,h2⟩=>⟨h1.chg hc (fun _ _ h=>h),h2⟩
 | _::_::_::_,h=>h.elim
theorem int_one (a:Int):∀ u∈([.int .i64 a]:List Value),u.oneCell'=true:=by
 intro u hu;rw[List.mem_singleton.1 hu]
 rfl
theorem notes_any {w0 w:World} {x p l:Nat} {most:Int} {B S:Nat→Prop} {sv:Value} {ss:List (Nat×Value)} {d:Dk} {g:Lg} {va vg vm ve:Value} {W:Wd} (h:WS w0 w x p l most B S sv ss d g va vg vm ve W) (hn:LgN B w ss g) (hE:W.ends.length≤1000) :
  Calls Tryz.prog 22 #[.pointer (some ⟨x,0,none⟩)] w fun e w'=>e = .returned (.tuple #[])∧∃ B' ve',WS w0 w' x p l most B' S sv ss d g va vg vm ve' (W.note g):=by
 have HH:=Lib.hid h
 have c1:w.cell? ⟨x,1,none⟩=some (.pointer (some ⟨l,0,none⟩)):=h.wm.c.cell (j:=1) rfl
 have c6:w.cell? ⟨x,6,none⟩=some ve:=h.wm.c.cell (j:=6) rfl
 have HNE:Hid (¬ve.ownBlock=some x):=h.wm.ne.2.2.2
 have HEN:Hid (∀ w',Chg (fun k=>ve.ownBlock=some k) w w'→Calls Tryz.prog 15 #[.pointer (some ⟨l,0,none⟩)] w' fun e w''=>e = .returned (.int .i64 g.stop)∧Chg Nil w' w''):=fun w' hw=>
  lend_any (h.lg.t.chg hw (fun k hk he=>(h.lg.lb k hk).1 (h.bw k (.inr (.inr (.inr (.inr he)))))) (fun k hk he=>h.lg.tb k hk (h.bw k (.inr (.inr (.inr (.inr he))))))) hn.ne hn.few (by have:=hn.pls;omega)
 have HSAF:Hid (∀ w',Box w' l (g.cells p sv) 99→Calls Tryz.prog 44 #[.pointer (some ⟨l,0,none⟩)] w' fun e w''=>e = .returned (.int .i64 g.safe)∧Chg Nil w' w''):=fun w' hb=>lsafe_any hb
 have HSTA:Hid (∀ w',Box w' l (g.cells p sv) 99→Calls Tryz.prog 16 #[.pointer (some ⟨l,0,none⟩)] w' fun e w''=>e = .returned (.int .i64 g.start)∧Chg Nil w' w''):=fun w' hb=>lstart_any hb
 obtain⟨st,hst⟩:∃ st,g.stop=st:=⟨_,rfl⟩
 rw[hst] at HEN;have HST:=Lib.hid hst
 have HEL:=Lib.hid hE
 clear h hn hE hst;go_enter Tryz.func22,Tryz.ntmps22
 go_upto_region 0 with fail;refine Ch.wp_region_last2 _ _ rfl (Chg (fun k=>ve.ownBlock=some k)) [10,11] (NotF w.heap.size ve W.ends st) (by kernel_rfl) (fun _=>Chg.refl _ _) (fun _ _ _ h k=>h.trans k (fun _ h=>.inl h)) [[],[],[1],[2],[3],[],[5],[6],[7],[8],[9],[4,10],[0],[12]] rfl (by kernel_rfl) (by kernel_rfl) (by kernel_rfl) (Chg.refl _ _).drew ?_ ?_
 ·exact HH.out.wm.e.chg (Chg.refl Nil _).drew (fun _ _ h=>h)
 simp only[List.dropLast_cons_cons,List.dropLast_singleton]
 iterate 4 ((with_reducible apply Ch.Walk.eq);(case hd=>rfl);(case hi=>rfl);case h=>(intro w2 hw2 N hN;simp only[Ch.depB];go_simp;(try go_bits);with_reducible exact hN _ (Chg.refl _ _) (fun _ h=>h)))
 ((with_reducible apply Ch.Walk.eq);(case hd=>rfl);(case hi=>rfl);case h=>(intro w2 hw2 N hN;(have hq:=hw2.cell c6 HNE.out);simp only[Ch.depB];go_simp;(try go_bits);with_reducible exact hN _ (Chg.refl _ _) (fun _ h=>h)))
 iterate 3 ((with_reducible apply Ch.Walk.eq);(case hd=>rfl);(case hi=>rfl);case h=>(intro w2 hw2 N hN;simp only[Ch.depB];go_simp;(try go_bits);with_reducible exact hN _ (Chg.refl _ _) (fun _ h=>h)))
 ((with_reducible apply Ch.Walk.eq);(case hd=>rfl);(case hi=>rfl);case h=>(intro w2 hw2 N hN;(have hq:=hw2.cell c1 HNE.out);simp only[Ch.depB];go_simp;(try go_bits);with_reducible exact hN _ (Chg.refl _ _) (fun _ h=>h)))
 (with_reducible apply Ch.Walk.eq);(case hd=>rfl);(case hi=>rfl);case h=>
  intro w2 hw2 N hN;simp only[Ch.depB,Ch.depC,Nat.reduceBEq,Nat.reduceAdd]
  go_simp;refine (HEN.out w2 hw2).mono ?_
  rintro e w5 ⟨rfl,hc5⟩
  exact⟨_,rfl,hN _ (hc5.weak (fun _ h=>h.elim)) (fun vs hF=>NotF.nil hc5 vs hF)⟩
 simp only[List.nil_append,List.cons_append]
 refine Ch.Walk.chain 0 rfl rfl ?_ ?_
 ·intro w8 hw8 vs hvs hF N hN;obtain rfl:=List.eq_nil_of_length_eq_zero hvs
  simp only[Ch.depB,Ch.depC,Nat.reduceBEq,Nat.reduceAdd]
  go_simp;have hal:=(Chg.refl Nil w8).alloc (.cells #[.int .i64 st] 3)
  exact hN _ _ (hal.weak (fun _ h=>h.elim)) ⟨OwnZ.chg hF hal (fun _ _ h=>h),w8.heap.size,rfl,Box.new w8 [.int .i64 st] _⟩
 refine Ch.Walk.chain 1 rfl rfl ?_ ?_
 ·intro w8 hw8 vs hvs hF N hN;obtain⟨v1,rfl⟩:=List.length_eq_one_iff.1 hvs
  simp only[Ch.depB,Ch.depC,Nat.reduceBEq,Nat.reduceAdd]
  obtain⟨f1,q8,rfl,f3⟩:=hF
  have hz3:w.heap.size≤w8.heap.size:=hw8.size
  refine Ch.if_append_row rfl (.tmp 6) (.tmp 12) 43 43 rfl intT _ Tryz.underlying43 (by intro _;simp) ve W.ends.length (W.ends.map fun n=>Value.int .i64 n) rfl f1 (.slice (some ⟨q8,0,none⟩) 1 1) 1 [.int .i64 st] rfl (Source.box f3 rfl (int_one _)) (by have:=HEL.out;unfold maxLen;omega) (by have:=HEL.out;omega) (fun v' w' h1 h2=>hN _ _ h2.chg ?_)
  refine⟨?_,fun k hk=>(h2.own k hk).imp id fun h=>by omega⟩
  unfold OwnZ;rw[List.length_append,List.map_append];exact h1
 iterate 2 ((with_reducible apply Ch.Walk.eq);(case hd=>rfl);(case hi=>rfl);case h=>(intro w2 hw2 N hN;simp only[Ch.depB];go_simp;(try go_bits);with_reducible exact hN _ (Chg.refl _ _) (fun _ h=>h)))
 intro w8 hw8;simp only[List.nil_append,List.cons_append,Ch.Fin,List.map_cons,List.map_nil,List.getD_cons_zero,List.getD_cons_succ]
 intro v5 _ v8 _ hF;have f1:OwnZ w8 v8 (W.ends++[st]):=hF.1
 have f2:∀ k,v8.ownBlock=some k→ve.ownBlock=some k∨w.heap.size≤k:=hF.2
 have hw8:Chg (fun k=>ve.ownBlock=some k) w w8:=hw8
 have hv8:=f1.form
 generalize vA v8=y8 at hv8;generalize (W.ends++[st]).length=n8 at hv8
 generalize vC v8=k8 at hv8;subst hv8;simp only[Ch.Then,Oper.wp]
 have hb8:=HH.out.wm.c.chg hw8 HNE.out
 have d6:=hb8.cell (j:=6) rfl
 have f6:=hb8.free 6
 have HB8:=Lib.hid hb8
 have HF1:=Lib.hid f1
 have HF2:=Lib.hid f2
 have HW8:=Lib.hid hw8
 clear hF f1 f2 hw8 hb8 c1 c6 HEN;go_simp;go_upto_region 1 with fail;have hs9:Chg (fun k=>k=x) w8 (w8.setCell ⟨x,6,none⟩ (.slice y8 n8 k8)):=(Chg.refl (fun k=>k=x) _).setCell (.inl rfl) _
 have hb9:Box (w8.setCell ⟨x,6,none⟩ (.slice y8 n8 k8)) x (({ W with ends:=W.ends++[st] }:Wd).cells p l most va vg vm (.slice y8 n8 k8)) 56:=HB8.out.set 6 _
 have HC9:Hid (Chg (fun k=>WHas x va vg vm ve k) w (w8.setCell ⟨x,6,none⟩ (.slice y8 n8 k8))):=(HW8.out.weak (fun k hk=>.inl (.inr (.inr (.inr (.inr hk)))))).trans (hs9.weak (S':=fun k=>WHas x va vg vm ve k) (fun k hk=>.inl (.inl hk))) (fun k hk=>.inl hk)
 have hm9:WMem w0.heap.size (w8.setCell ⟨x,6,none⟩ (.slice y8 n8 k8)) x p l most va vg vm (.slice y8 n8 k8) { W with ends:=W.ends++[st] }:=by
  have hm:=HH.out.wm
  have hne:=hm.ne
  have n1:∀ k,va.ownBlock=some k→¬(ve.ownBlock=some k):=fun k hk=>rows_ne hm.a hm.e (by decide) hk
  have n2:∀ k,vg.ownBlock=some k→¬(ve.ownBlock=some k):=fun k hk=>rows_ne hm.g hm.e (by decide) hk
  have n3:∀ k,vm.ownBlock=some k→¬(ve.ownBlock=some k):=fun k hk=>rows_ne hm.m hm.e (by decide) hk
  refine⟨hb9,ownsRow_chg (ownsRow_chg hm.a HW8.out n1) hs9 (fun k hk e=>hne.1 (e ▸ hk)),ownsRow_chg (ownsRow_chg hm.g HW8.out n2) hs9 (fun k hk e=>hne.2.1 (e ▸ hk)),ownsRow_chg (ownsRow_chg hm.m HW8.out n3) hs9 (fun k hk e=>hne.2.2.1 (e ▸ hk)),ownsRow_chg HF1.out hs9 (fun k hk e=>?_),?_,hm.gm⟩
  ·rcases HF2.out k hk with h | h
   ·exact hne.2.2.2 (e ▸ h)
   ·have:=hm.lt x (.inl rfl);omega
  ·rintro k (hk | hk | hk | hk | hk)
   ·exact hm.new k (.inl hk)
   ·exact hm.new k (.inr (.inl hk))
   ·exact hm.new k (.inr (.inr (.inl hk)))
   ·exact hm.new k (.inr (.inr (.inr (.inl hk))))
   ·rcases HF2.out k hk with h | h
    ·exact hm.new k (.inr (.inr (.inr (.inr h))))
    ·have:=HH.out.ch.size;omega
 have hS9:=HH.out.law HC9.out hm9 (fun k hk=>by
  rcases hk with hk | hk | hk | hk | hk
  ·exact .inl (.inl hk)
  ·exact .inl (.inr (.inl hk))
  ·exact .inl (.inr (.inr (.inl hk)))
  ·exact .inl (.inr (.inr (.inr (.inl hk))))
  ·exact (HF2.out k hk).imp (fun h=>.inr (.inr (.inr (.inr h)))) id)
 generalize w8.setCell ⟨x,6,none⟩ (.slice y8 n8 k8)=w9 at *;obtain⟨B9,hB9⟩:∃ B9:Nat→Prop,(fun k=>B k∨(w.heap.size≤k∧k<w9.heap.size))=B9:=⟨_,rfl⟩
 rw[hB9] at hS9;have HS9:=Lib.hid hS9
 have c1:w9.cell? ⟨x,1,none⟩=some (.pointer (some ⟨l,0,none⟩)):=hS9.wm.c.cell (j:=1) rfl
 have c7:w9.cell? ⟨x,7,none⟩=some (.int .i64 W.safe):=hS9.wm.c.cell (j:=7) rfl
 clear hs9 hb9 hm9 hS9 hB9 d6 f6 HC9 HB8 HW8 HF1 HF2 HH HNE;refine Ch.wp_region_last2 _ _ rfl (Chg (Nil)) [] (fun _ _=>True) (by kernel_rfl) (fun _=>Chg.refl _ _) (fun _ _ _ h k=>h.trans k (fun _ h=>.inl h)) [[],[],[1],[2],[3],[],[5],[6],[7],[8],[4,9],[0],[11]] rfl (by kernel_rfl) (by kernel_rfl) (by kernel_rfl) (Chg.refl _ _).drew ?_ ?_
 ·trivial
 simp only[List.dropLast_cons_cons,List.dropLast_singleton]
 iterate 4 ((with_reducible apply Ch.Walk.eq);(case hd=>rfl);(case hi=>rfl);case h=>(intro w2 hw2 N hN;simp only[Ch.depB];go_simp;(try go_bits);with_reducible exact hN _ (Chg.refl _ _) (fun _ h=>h)))
 ((with_reducible apply Ch.Walk.eq);(case hd=>rfl);(case hi=>rfl);case h=>(intro w2 hw2 N hN;(have hq:=hw2.cell c7 (fun h=>h));simp only[Ch.depB];go_simp;(try go_bits);with_reducible exact hN _ (Chg.refl _ _) (fun _ h=>h)))
 iterate 3 ((with_reducible apply Ch.Walk.eq);(case hd=>rfl);(case hi=>rfl);case h=>(intro w2 hw2 N hN;simp only[Ch.depB];go_simp;(try go_bits);with_reducible exact hN _ (Chg.refl _ _) (fun _ h=>h)))
 ((with_reducible apply Ch.Walk.eq);(case hd=>rfl);(case hi=>rfl);case h=>(intro w2 hw2 N hN;(have hq:=hw2.cell c1 (fun h=>h));simp only[Ch.depB];go_simp;(try go_bits);with_reducible exact hN _ (Chg.refl _ _) (fun _ h=>h)))
 (with_reducible apply Ch.Walk.eq);(case hd=>rfl);(case hi=>rfl);case h=>
  intro w2 hw2 N hN;simp only[Ch.depB,Ch.depC,Nat.reduceBEq,Nat.reduceAdd]
  go_simp;refine (HSAF.out w2 ((HS9.out.nil hw2).lg.c)).mono ?_
  rintro e w5 ⟨rfl,hc5⟩
  exact⟨_,rfl,hN _ hc5 (fun vs hF=>hF)⟩
 simp only[List.nil_append,List.cons_append]
 iterate 3 ((with_reducible apply Ch.Walk.eq);(case hd=>rfl);(case hi=>rfl);case h=>(intro w2 hw2 N hN;simp only[Ch.depB];go_simp;(try go_bits);with_reducible exact hN _ (Chg.refl _ _) (fun _ h=>h)))
 intro w10 hw10;simp only[List.nil_append,List.cons_append,Ch.Fin,List.map_cons,List.map_nil,List.getD_cons_zero,List.getD_cons_succ]
 intro _;simp only[Ch.Then,Oper.wp]
 have HS10:=Lib.hid (HS9.out.nil hw10)
 have d7:=HS10.out.wm.c.cell (j:=7) rfl
 have f7:=HS10.out.wm.c.free 7
 clear hw10 c1 c7;go_simp;go_upto_region 2 with fail;have law1:∀ (w10 w11:World) (j:Nat) (v:Value) (W2 W3:Wd) (B9:Nat→Prop),WS w0 w10 x p l most B9 S sv ss d g va vg vm (.slice y8 n8 k8) W2→w10.setCell ⟨x,j,none⟩ v=w11→(∀ h:Box w10 x (W2.cells p l most va vg vm (.slice y8 n8 k8)) 56,Box w11 x (W3.cells p l most va vg vm (.slice y8 n8 k8)) 56)→W3.all=W2.all→W3.gone=W2.gone→W3.may=W2.may→W3.ends=W2.ends→∃ B',WS w0 w11 x p l most B' S sv ss d g va vg vm (.slice y8 n8 k8) W3:=by
  intro w10 w11 j v W2 W3 B9 hs hw hb e1 e2 e3 e4;subst hw;have hsc:Chg (fun k=>k=x) w10 (w10.setCell ⟨x,j,none⟩ v):=(Chg.refl (fun k=>k=x) _).setCell (.inl rfl) _
  have hm:=hs.wm
  have hne:=hm.ne
  refine⟨_,hs.law (hsc.weak (fun k hk=>.inl (.inl hk))) ⟨hb hm.c,?_,?_,?_,?_,hm.new,hm.gm⟩ (fun k hk=>.inl hk)⟩
  ·rw[e1];exact ownsRow_chg hm.a hsc (fun k hk e=>hne.1 (e ▸ hk))
  ·rw[e2];exact ownsRow_chg hm.g hsc (fun k hk e=>hne.2.1 (e ▸ hk))
  ·rw[e3];exact ownsRow_chg hm.m hsc (fun k hk e=>hne.2.2.1 (e ▸ hk))
  ·rw[e4];exact ownsRow_chg hm.e hsc (fun k hk e=>hne.2.2.2 (e ▸ hk))
 have HLAW:=Lib.hid law1
 obtain⟨B11,hS11⟩:=HLAW.out w10 _ 7 (.int .i64 (max W.safe g.safe)) _ { W with ends:=W.ends++[st],safe:=max W.safe g.safe } B9 HS10.out rfl (fun hb=>hb.set 7 _) rfl rfl rfl rfl
 clear law1 d7 f7;generalize w10.setCell ⟨x,7,none⟩ (.int .i64 (max W.safe g.safe))=w11 at *
 have HS11:=Lib.hid hS11
 have c1:w11.cell? ⟨x,1,none⟩=some (.pointer (some ⟨l,0,none⟩)):=hS11.wm.c.cell (j:=1) rfl
 clear hS11;go_wp2_with fail;refine (HSTA.out w11 HS11.out.lg.c).mono ?_
 rintro e w12 ⟨rfl,hc12⟩
 have HS12:=Lib.hid (HS11.out.nil hc12)
 have d8:=HS12.out.wm.c.cell (j:=8) rfl
 have f8:=HS12.out.wm.c.free 8
 clear hc12 c1;go_wp2_with fail;go_end0
 obtain⟨B13,hS13⟩:=HLAW.out w12 _ 8 (.int .i64 g.start) _ { W with ends:=W.ends++[st],safe:=max W.safe g.safe,start:=g.start } B11 HS12.out rfl (fun hb=>hb.set 8 _) rfl rfl rfl rfl
 refine⟨rfl,B13,.slice y8 n8 k8,?_⟩
 unfold Wd.note;rw[HST.out];exact hS13
end Go.Proofs.YtdjmifaidgbbaaaGreatDoor
