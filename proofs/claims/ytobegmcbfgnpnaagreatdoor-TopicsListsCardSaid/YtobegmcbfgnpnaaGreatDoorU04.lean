/-
  A region that draws its order and whose last operations stand in one forced order behind all others. Over any program. (After XLast2.)
-/
import Derived.Test.YtobegmcbfgnpnaaGreatDoorU03
set_option linter.unusedVariables false
set_option linter.unusedSimpArgs false
set_option maxHeartbeats 0
set_option maxRecDepth 200000
namespace Go.Proofs.YtobegmcbfgnpnaaGreatDoor.Ch
section
variable {P:Program} {ops:Array Oper} {Q:Exit→Act→World→Prop}
def reachL (ops:Array Oper) (o:Oper):Nat→List Nat→List Nat
 | 0,acc=>acc
 | i+1,acc=>reachL ops o i (if (o.after.any fun e=>Region.binds .any e&&e.on==i)||(acc.any fun k=>match ops[k]? with | some u=>u.after.any (fun x=>Region.binds .any x&&x.on==i) | none=>false) then i::acc else acc)
def Reached (ops:Array Oper) (o:Oper) (j:Nat):Prop:=∀ listed,Down ops listed→(∀ e∈o.after,Region.binds .any e=true→listed.getD e.on false=true)→listed.getD j false=true
theorem reachL_sound {o:Oper}:∀ (i:Nat) (acc:List Nat),(∀ j∈acc,Reached ops o j)→∀ j∈reachL ops o i acc,Reached ops o j
 | 0,_,h=>h
 | i+1,acc,h=>by
  rw[reachL];refine reachL_sound i _ fun j hj=>?_
  split at hj
  ·next hc=>
   rcases List.mem_cons.1 hj with rfl | hj
   ·rw[Bool.or_eq_true] at hc;rcases hc with hc | hc
    ·obtain⟨e,he,h5⟩:=Array.any_eq_true'.1 hc
     simp only[Bool.and_eq_true,beq_iff_eq] at h5
     intro listed _ h6;rw[←h5.2];exact h6 e he h5.1
    ·obtain⟨k,hk,h5⟩:=List.any_eq_true.1 hc
     cases hu:ops[k]? with
     | none=>rw[hu] at h5;cases h5
     | some u=>
      rw[hu] at h5;obtain⟨x,hx,h7⟩:=Array.any_eq_true'.1 h5
      simp only[Bool.and_eq_true,beq_iff_eq] at h7
      intro listed hd h6;rw[←h7.2];exact hd k u hu (h k hk listed hd h6) x hx h7.1
   ·exact h j hj
  ·exact h j hj
def lastBR (ops:Array Oper) (o:Oper):Bool:=
 o.guard.isNone&&((List.range ops.size).all fun j=>(reachL ops o ops.size []).contains j) &&
 o.after.all (fun e=>!Region.binds .any e||decide (e.on<ops.size)) &&
 ops.all fun u=>u.after.all (fun e=>!Region.binds .any e||decide (e.on<ops.size))&&match u.guard with | some (g,_)=>decide (g<ops.size) | none=>true
structure LastR (ops:Array Oper) (o:Oper):Prop where
 free:o.guard=none
 waits:∀ j,j<ops.size→Reached ops o j
 on:∀ e∈o.after,Region.binds .any e=true→e.on<ops.size
 ons:∀ u∈ops,∀ e∈u.after,Region.binds .any e=true→e.on<ops.size
 guard:∀ u∈ops,∀ g b,u.guard=some (g,b)→g<ops.size
theorem LastR.of {o:Oper}(h:lastBR ops o=true):LastR ops o:=by
 unfold lastBR at h;simp only[Bool.and_eq_true,Array.all_eq_true_iff_forall_mem,List.all_eq_true,List.mem_range,decide_eq_true_eq] at h
 obtain⟨⟨⟨h1,h2⟩,h3⟩,h4⟩:=h
 have hb:∀ e:Edge,(!Region.binds .any e||decide (e.on<ops.size))=true→Region.binds .any e=true→e.on<ops.size:=fun e h hb=>by
  rw[hb] at h;simpa using h
 refine⟨by simpa using h1,fun j hj=>?_,fun e he=>hb e (h3 e he),fun u hu e he=>hb e ((h4 u hu).1 e he),fun u hu g b hg=>?_⟩
 ·exact reachL_sound ops.size [] (by simp) j (by simpa using h2 j hj)
 ·have:=(h4 u hu).2
  rw[hg] at this;simpa using this
theorem any_lastR {o:Oper}{n:Nat}{D:List (List Nat)}(hok:Ok ops n D)(hl:LastR ops o):∀ (fuel:Nat) (listed:Array Bool) (a:Act) (w:World),listed.size=ops.size→Down ops listed→
  wpAny P .any ops (Then P o Q) fuel listed a w→wpAny P .any (ops.push o) Q (fuel+1) (listed.push false) a w:=by
 have stop:∀ (fuel:Nat) (listed:Array Bool) (a:Act) (w:World),listed.size=ops.size→Region.ready .any ops listed=[]→Then P o Q .normal a w→wpOp P (ops.push o) Q ops.size (wpAny P .any (ops.push o) Q fuel ((listed.push false).setIfInBounds ops.size true)) a w:=by
  intro fuel listed a w hsz hr ht;have hall:=all_listed hok hsz hr
  unfold wpOp;rw[show (ops.push o)[ops.size]? = some o by simp]
  simp only
  rw[if_pos (by unfold Region.wanted;rw[hl.free])]
  refine .inl (Oper.wp_mono (fun a w hq=>any_done (fun i hi=>?_) hq) ht)
  simp only[Array.size_push] at hi
  simp only[Array.getD_eq_getD_getElem?,Array.getElem?_setIfInBounds]
  by_cases e:ops.size=i
  ·subst e;simp[hsz]
  ·rw[if_neg e]
   have:=hall i (by omega)
   simp only[Array.getD_eq_getD_getElem?,Array.getElem?_push] at this ⊢
   rw[if_neg (by omega)]
   exact this
 have last_in:∀ (listed:Array Bool),listed.size=ops.size→Region.ready .any ops listed=[]→ops.size∈Region.ready .any (ops.push o) (listed.push false):=by
  intro listed hsz hr;have hall:=all_listed hok hsz hr
  refine mem_ready.2 ⟨o,by simp,by rw[push_getD,if_pos hsz.symm],fun e he hb=>?_⟩
  have h1:=hl.on e he hb
  rw[push_getD,if_neg (by omega)]
  have:=hall e.on h1
  rw[Array.getD_eq_getD_getElem?,Array.getElem?_eq_getElem (by omega)] at this ⊢
  exact this
 have old_in:∀ (listed:Array Bool) (i:Nat),listed.size=ops.size→i∈Region.ready .any ops listed→i∈Region.ready .any (ops.push o) (listed.push false):=by
  intro listed i hsz hi;obtain⟨u,hu,h1,h2⟩:=mem_ready.1 hi
  have hlt:=lt_size hu
  refine mem_ready.2 ⟨u,by rw[Array.getElem?_push,if_neg (by omega)];exact hu,by rw[push_getD,if_neg (by omega)];exact h1,fun e he hb=>?_⟩
  have:=hl.ons u (Array.mem_of_getElem? hu) e he hb
  rw[push_getD,if_neg (by omega)]
  exact h2 e he hb
 have in_old:∀ (listed:Array Bool) (i:Nat),listed.size=ops.size→Down ops listed→i∈Region.ready .any (ops.push o) (listed.push false)→i∈Region.ready .any ops listed∨(i=ops.size∧Region.ready .any ops listed=[]):=by
  intro listed i hsz hdown hi;obtain⟨u,hu,h1,h2⟩:=mem_ready.1 hi
  have hlt:=lt_size hu
  simp only[Array.size_push] at hlt
  by_cases e:i=ops.size
  ·refine .inr ⟨e,?_⟩
   subst e;rw[show (ops.push o)[ops.size]? = some o by simp] at hu
   obtain rfl:=Option.some.inj hu
   cases hc:Region.ready .any ops listed with
   | nil=>rfl
   | cons j l=>
    obtain⟨u,hu,hj,_⟩:=mem_ready.1 (show j∈Region.ready .any ops listed by rw[hc];exact List.mem_cons_self ..)
    have hjl:=lt_size hu
    have this:listed.getD j false=true:=hl.waits j hjl listed hdown (fun e he hb=>by
     have hel:=hl.on e he hb
     have hthis:=h2 e he hb
     rw[push_getD,if_neg (by omega)] at hthis
     exact hthis)
    rw[Array.getD_eq_getD_getElem?,Array.getElem?_eq_getElem (by omega)] at this hj
    simp only[Option.getD_some] at this hj
    rw[hj] at this;cases this
  ·refine .inl (mem_ready.2 ⟨u,by rw[Array.getElem?_push,if_neg e] at hu;exact hu,by rw[push_getD,if_neg (by omega)] at h1;exact h1,fun x hx hb=>?_⟩)
   rw[Array.getElem?_push,if_neg e] at hu
   have h3:=hl.ons u (Array.mem_of_getElem? hu) x hx hb
   have:=h2 x hx hb
   rw[push_getD,if_neg (by omega)] at this
   exact this
 intro fuel;induction fuel with
 | zero=>
  intro listed a w hsz hdown h;obtain⟨hr,ht⟩:=h
  refine⟨fun he=>?_,fun i hi=>?_⟩
  ·have:=last_in listed hsz hr
   rw[he] at this;cases this
  ·rcases in_old listed i hsz hdown hi with h1 | ⟨rfl,h1⟩
   ·rw[hr] at h1;cases h1
   ·exact stop 0 listed a w hsz hr ht
 | succ fuel ih=>
  intro listed a w hsz hdown h;obtain⟨h0,h1⟩:=h
  refine⟨fun he=>?_,fun i hi=>?_⟩
  ·by_cases hr:Region.ready .any ops listed=[]
   ·have:=last_in listed hsz hr
    rw[he] at this;cases this
   ·obtain⟨i,hi⟩:=List.exists_mem_of_ne_nil _ hr
    have:=old_in listed i hsz hi
    rw[he] at this;cases this
  ·rcases in_old listed i hsz hdown hi with hin | ⟨rfl,hr⟩
   ·have hop:=h1 i hin
    obtain⟨u,hu,_,_⟩:=mem_ready.1 hin
    have hlt:=lt_size hu
    have hset:(listed.push false).setIfInBounds i true=(listed.setIfInBounds i true).push false:=by
     apply Array.ext_getElem?
     intro k;simp only[Array.getElem?_setIfInBounds,Array.getElem?_push,Array.size_push,Array.size_setIfInBounds]
     by_cases e:i=k
     ·subst e;simp[hsz,hlt,Nat.ne_of_lt hlt,Nat.lt_succ_of_lt hlt]
     ·simp[e]
    rw[hset];unfold wpOp at hop ⊢
    rw[hu] at hop;rw[Array.getElem?_push,if_neg (by omega),hu]
    simp only at hop ⊢
    have hw:Region.wanted u (yielded (ops.push o) a.tmps)=Region.wanted u (yielded ops a.tmps):=by
     unfold Region.wanted;cases hg:u.guard with
     | none=>rfl
     | some x=>
      obtain⟨g,b⟩:=x
      have:=hl.guard u (Array.mem_of_getElem? hu) g b hg
      simp only[yielded]
      rw[Array.getElem?_push,if_neg (by omega)]
    rw[hw];split
    ·rename_i hwt
     rw[if_pos hwt] at hop
     rcases hop with h | h
     ·exact .inl (wp_then (fun a w hh=>ih _ a w (by simpa using hsz) (hdown.more hin) hh) h)
     ·exact .inr ⟨h.1,h.2⟩
    ·rename_i hwt
     rw[if_neg hwt] at hop
     exact ih _ _ _ (by simpa using hsz) (hdown.more hin) hop
   ·exact stop (fuel+1) listed a w hsz hr (h0 hr)
def Thens (P:Program):List Oper→(Exit→Act→World→Prop)→Exit→Act→World→Prop
 | [],Q=>Q
 | o::t,Q=>Then P o (Thens P t Q)
def tailB (n:Nat) (D:List (List Nat)):List Oper→List Oper→Bool
 | _,[]=>true
 | l,o::t=>okB l.toArray n (D.take l.length)&&lastBR l.toArray o&&tailB n D (l++[o]) t
theorem any_tail {n:Nat}{D:List (List Nat)}:∀ (t l:List Oper) (fuel:Nat) (listed:Array Bool) (a:Act) (w:World),tailB n D l t=true→listed.size=l.length→Down l.toArray listed→
  wpAny P .any l.toArray (Thens P t Q) fuel listed a w→wpAny P .any (l++t).toArray Q (fuel+t.length) (listed++Array.replicate t.length false) a w
 | [],l,fuel,listed,a,w,_,_,_,h=>by simpa [Thens] using h
 | o::t,l,fuel,listed,a,w,ht,hs,hd,h=>by
  rw[tailB,Bool.and_eq_true,Bool.and_eq_true] at ht;obtain⟨⟨h1,h2⟩,h3⟩:=ht
  have hL:=LastR.of h2
  have h4:=any_lastR (P:=P) (Q:=Thens P t Q) (Ok.of h1) hL fuel listed a w (by simpa using hs) hd h
  have e1:(l.toArray.push o)=(l++[o]).toArray:=by simp
  rw[e1] at h4;have hd2:Down (l++[o]).toArray (listed.push false):=by
   intro k u hu hk e he hb;have hkl:k<l.length:=by
    rw[push_getD] at hk;split at hk
    ·cases hk
    ·have:=lt_size hu
     simp at this
     omega
   have hu2:l.toArray[k]? = some u:=by
    have h5:(l++[o])[k]? = some u:=by simpa using hu
    rw[List.getElem?_append_left hkl] at h5
    simpa using h5
   have h6:=hL.ons u (Array.mem_of_getElem? hu2) e he hb
   have h7:e.on<l.length:=by simpa using h6
   rw[push_getD,if_neg (by omega)] at hk ⊢
   exact hd k u hu2 hk e he hb
  have h5:=any_tail t (l++[o]) (fuel+1) (listed.push false) a w h3 (by simp[hs]) hd2 h4
  have e2:(l++[o]++t)=l++o::t:=by simp
  have e3:fuel+1+t.length=fuel+(o::t).length:=by simp;omega
  have e4:listed.push false++Array.replicate t.length false=listed++Array.replicate (o::t).length false:=by
   apply Array.ext'
   simp[List.replicate_succ]
  rw[e2,e3,e4] at h5;exact h5
variable {R:World→World→Prop} {w0:World} {a0:Act} {D:List (List Nat)} {C:List Nat} {F:List Value→World→Prop}
theorem wp_region_tail2 {id:Nat} (all l t:List Oper)(heq:all=l++t) (R:World→World→Prop) (C:List Nat) (F:List Value→World→Prop)(hm:P.follows .mixedOrders=true)(hrefl:∀ a,R a a)(htr:∀ a b c,R a b→R b c→R a c) (D:List (List Nat)) {n:Nat}(hn:a0.tmps.size=n)
  (hok:okB l.toArray n (D.take l.length)=true)(hch:chainB l.toArray C=true)(hla:tailB n D l t=true)(hr0:R w0 { w0 with drawn:=w0.drawn+1 })(hF:F [] { w0 with drawn:=w0.drawn+1 })
  (h:Walk P l.toArray R C F w0 (Thens P t Q) a0 (D.take l.length) l []):(Code.region id all.toArray true).wp P Q a0 w0:=by
 subst hn;subst heq;have hok:=Ok.of hok
 have hC:=Chained.of hch
 obtain⟨specs,hE⟩:=each_of_walk hok l (D.take l.length) [] (by simp) (by simp) (by simp) (by simp) (by simp) (by simp) h
 refine wp_region_any hm ?_
 have hnone:∀ k,k<l.toArray.size→(Array.replicate l.toArray.size false).getD k true=false:=by
  intro k hk;have hkl:k<l.length:=by simpa using hk
  simp[Array.getD_eq_getD_getElem?,hkl]
 have e2:Array.replicate (l++t).toArray.size false=Array.replicate l.toArray.size false++Array.replicate t.length false:=by
  apply Array.ext'
  simp[List.replicate_append_replicate]
 have e3:(l++t).toArray.size=l.toArray.size+t.length:=by simp
 rw[e2,e3];refine any_tail (P:=P) (Q:=Q) t l _ _ _ _ hla (by simp) (fun k u hk hl=>by
  have hkl:k<l.length:=by have:=lt_size hk;simpa using this
  simp[Array.getD_eq_getD_getElem?,hkl] at hl) ?_
 refine any_of_each hrefl htr hok hC hE _ _ _ _ ⟨by simp,hr0,rfl,rfl,?_,fun _ _=>rfl,?_,0,Nat.zero_le _,?_,by simpa using hF⟩ ?_ ?_
 ·intro k u hk hl;rw[hnone k (lt_size hk)] at hl
  cases hl
 ·intro k u d s hk hl;rw[hnone k (lt_size hk)] at hl
  cases hl
 ·intro m c hm;rw[hnone c (hC.lt c (List.mem_of_getElem? hm))]
  simp
 ·intro i hi _ hz;rw[hz] at hi;exact absurd hi (Nat.not_lt_zero _)
 ·rw[Array.toList_replicate];exact Nat.le_trans (List.length_filter_le _ _) (by simp)
theorem wp_region_tail {id:Nat} (all:List Oper) (k:Nat) (R:World→World→Prop) (C:List Nat) (F:List Value→World→Prop)(hm:P.follows .mixedOrders=true)(hrefl:∀ a,R a a)(htr:∀ a b c,R a b→R b c→R a c) (D:List (List Nat)) {n:Nat}(hn:a0.tmps.size=n)
  (hok:okB (all.take k).toArray n (D.take (all.take k).length)=true)(hch:chainB (all.take k).toArray C=true)(hla:tailB n D (all.take k) (all.drop k)=true)(hr0:R w0 { w0 with drawn:=w0.drawn+1 })(hF:F [] { w0 with drawn:=w0.drawn+1 })
  (h:Walk P (all.take k).toArray R C F w0 (Thens P (all.drop k) Q) a0 (D.take (all.take k).length) (all.take k) []):(Code.region id all.toArray true).wp P Q a0 w0:=
 wp_region_tail2 all (all.take k) (all.drop k) (List.take_append_drop k all).symm R C F hm hrefl htr D hn hok hch hla hr0 hF h
@[go_sem] theorem thens_cons (P:Program) (o:Oper) (t:List Oper) (Q:Exit→Act→World→Prop) (a:Act) (w:World):Thens P (o::t) Q .normal a w=o.wp P a w (Thens P t Q .normal) (Thens P t Q):=rfl
@[go_sem] theorem thens_nil (P:Program) (Q:Exit→Act→World→Prop) (a:Act) (w:World):Thens P [] Q .normal a w=Q .normal a w:=rfl
end
end Go.Proofs.YtobegmcbfgnpnaaGreatDoor.Ch
