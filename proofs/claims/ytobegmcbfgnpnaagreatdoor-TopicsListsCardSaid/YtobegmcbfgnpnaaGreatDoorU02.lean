/-
  A drawn region whose LAST operation waits for all the others: the others by Chain, then the last one in the known world. Over any program.
  Walk.chainE: an operation of the chain whose value is known.
-/
import Derived.Test.YtobegmcbfgnpnaaGreatDoorU01
set_option linter.unusedVariables false
set_option linter.unusedSimpArgs false
set_option maxHeartbeats 0
set_option maxRecDepth 200000
namespace Go.Proofs.YtobegmcbfgnpnaaGreatDoor.Ch
section
variable {P:Program} {ops:Array Oper} {Q:Exit→Act→World→Prop}
def Then (P:Program) (o:Oper) (Q:Exit→Act→World→Prop):Exit→Act→World→Prop
 | .normal,a,w=>o.wp P a w (Q .normal) Q
 | e,a,w=>Q e a w
theorem wp_then {o u:Oper}{a:Act}{w:World}{K K':Act→World→Prop}(h:∀ a w,K a w→K' a w)(hh:u.wp P a w K (Then P o Q)):u.wp P a w K' Q:=by
 unfold Oper.wp at *
 generalize (execOp a.eval u).run P w=r at *;cases r with
 | ok n w'=>
  cases n<;>simp only[Oper.upon] at hh ⊢ <;>
   first
    | exact h _ _ hh
    | exact Calls.mono hh (fun e w'' he=>by cases e<;>first | exact h _ _ he | exact he)
    | exact Rows.mono hh (fun _ _ he=>h _ _ he)
 | halt x w'=>cases x<;>simp only[Oper.upon] at hh ⊢ <;> exact hh
def lastB (ops:Array Oper) (o:Oper):Bool:=
 o.guard.isNone&&((List.range ops.size).all fun j=>o.after.any fun e=>Region.binds .any e&&e.on==j) &&
 o.after.all (fun e=>decide (e.on<ops.size)) &&
 ops.all fun u=>u.after.all (fun e=>decide (e.on<ops.size))&&match u.guard with | some (g,_)=>decide (g<ops.size) | none=>true
structure Last (ops:Array Oper) (o:Oper):Prop where
 free:o.guard=none
 waits:∀ j,j<ops.size→∃ e∈o.after,Region.binds .any e=true∧e.on=j
 on:∀ e∈o.after,e.on<ops.size
 ons:∀ u∈ops,∀ e∈u.after,e.on<ops.size
 guard:∀ u∈ops,∀ g b,u.guard=some (g,b)→g<ops.size
theorem Last.of {o:Oper}(h:lastB ops o=true):Last ops o:=by
 unfold lastB at h;simp only[Bool.and_eq_true,Array.all_eq_true_iff_forall_mem,List.all_eq_true,List.mem_range,decide_eq_true_eq] at h
 obtain⟨⟨⟨h1,h2⟩,h3⟩,h4⟩:=h
 refine⟨by simpa using h1,fun j hj=>?_,h3,fun u hu=>(h4 u hu).1,fun u hu g b hg=>?_⟩
 ·obtain⟨e,he,h5⟩:=Array.any_eq_true'.1 (h2 j hj)
  simp only[Bool.and_eq_true,beq_iff_eq] at h5
  exact⟨e,he,h5.1,h5.2⟩
 ·have:=(h4 u hu).2
  rw[hg] at this;simpa using this
theorem mem_ready {listed:Array Bool}{i:Nat}:i∈Region.ready .any ops listed↔∃ o,ops[i]? = some o∧listed.getD i true=false∧∀ e∈o.after,Region.binds .any e=true→listed.getD e.on false=true:=by
 refine⟨ready_spec,fun ⟨o,ho,hl,ha⟩=>?_⟩
 unfold Region.ready;simp only[List.mem_filter,List.mem_range,Bool.and_eq_true,Bool.not_eq_true']
 refine⟨lt_size ho,hl,?_⟩
 rw[ho];simp only[Option.map_some,Option.getD_some,Array.all_eq_true_iff_forall_mem,Bool.or_eq_true,Bool.not_eq_true']
 intro e he;cases hb:Region.binds .any e with
 | false=>exact .inl rfl
 | true=>exact .inr (ha e he hb)
theorem push_getD {listed:Array Bool}{b d:Bool}{i:Nat}:(listed.push b).getD i d=if i=listed.size then b else listed.getD i d:=by
 simp only[Array.getD_eq_getD_getElem?,Array.getElem?_push]
 split<;>simp_all
theorem any_done {listed:Array Bool}(h:∀ i,i<ops.size→listed.getD i true=true) {fuel:Nat}{a:Act}{w:World}(hq:Q .normal a w):wpAny P .any ops Q fuel listed a w:=by
 have hr:Region.ready .any ops listed=[]:=by
  cases hc:Region.ready .any ops listed with
  | nil=>rfl
  | cons i l=>
   obtain⟨o,ho,hl,_⟩:=mem_ready.1 (show i∈Region.ready .any ops listed by rw[hc];exact List.mem_cons_self ..)
   rw[h i (lt_size ho)] at hl
   cases hl
 cases fuel with
 | zero=>exact⟨hr,hq⟩
 | succ fuel=>exact⟨fun _=>hq,fun i hi=>by rw[hr] at hi;cases hi⟩
theorem any_last {o:Oper}{n:Nat}{D:List (List Nat)}(hok:Ok ops n D)(hl:Last ops o):∀ (fuel:Nat) (listed:Array Bool) (a:Act) (w:World),listed.size=ops.size→
  wpAny P .any ops (Then P o Q) fuel listed a w→wpAny P .any (ops.push o) Q (fuel+1) (listed.push false) a w:=by
 have stop:∀ (fuel:Nat) (listed:Array Bool) (a:Act) (w:World),listed.size=ops.size→Region.ready .any ops listed=[]→Then P o Q .normal a w→wpOp P (ops.push o) Q ops.size (wpAny P .any (ops.push o) Q fuel ((listed.push false).setIfInBounds ops.size true)) a w:=by
  intro fuel listed a w hsz hr ht;have hall:=all_listed hok hsz hr
  unfold wpOp;rw[show (ops.push o)[ops.size]? = some o by simp]
  simp only
  rw[if_pos (by unfold Region.wanted;rw[hl.free])]
  refine .inl (Oper.wp_mono (fun a w hq=>any_done (fun i hi=>?_) hq) ht)
  simp only[Array.size_push] at hi
  simp only[Array.getD_eq_getD_getElem?,Array.getElem?_setIfInBounds]
  by_cases e:ops.size=i
  ·subst e;simp[hsz]
  ·rw[if_neg e]
   have:=hall i (by omega)
   simp only[Array.getD_eq_getD_getElem?,Array.getElem?_push] at this ⊢
   rw[if_neg (by omega)]
   exact this
 have last_in:∀ (listed:Array Bool),listed.size=ops.size→Region.ready .any ops listed=[]→ops.size∈Region.ready .any (ops.push o) (listed.push false):=by
  intro listed hsz hr;have hall:=all_listed hok hsz hr
  refine mem_ready.2 ⟨o,by simp,by rw[push_getD,if_pos hsz.symm],fun e he _=>?_⟩
  have h1:=hl.on e he
  rw[push_getD,if_neg (by omega)]
  have:=hall e.on h1
  rw[Array.getD_eq_getD_getElem?,Array.getElem?_eq_getElem (by omega)] at this ⊢
  exact this
 have old_in:∀ (listed:Array Bool) (i:Nat),listed.size=ops.size→i∈Region.ready .any ops listed→i∈Region.ready .any (ops.push o) (listed.push false):=by
  intro listed i hsz hi;obtain⟨u,hu,h1,h2⟩:=mem_ready.1 hi
  have hlt:=lt_size hu
  refine mem_ready.2 ⟨u,by rw[Array.getElem?_push,if_neg (by omega)];exact hu,by rw[push_getD,if_neg (by omega)];exact h1,fun e he hb=>?_⟩
  have:=hl.ons u (Array.mem_of_getElem? hu) e he
  rw[push_getD,if_neg (by omega)]
  exact h2 e he hb
 have in_old:∀ (listed:Array Bool) (i:Nat),listed.size=ops.size→i∈Region.ready .any (ops.push o) (listed.push false)→i∈Region.ready .any ops listed∨(i=ops.size∧Region.ready .any ops listed=[]):=by
  intro listed i hsz hi;obtain⟨u,hu,h1,h2⟩:=mem_ready.1 hi
  have hlt:=lt_size hu
  simp only[Array.size_push] at hlt
  by_cases e:i=ops.size
  ·refine .inr ⟨e,?_⟩
   subst e;rw[show (ops.push o)[ops.size]? = some o by simp] at hu
   obtain rfl:=Option.some.inj hu
   cases hc:Region.ready .any ops listed with
   | nil=>rfl
   | cons j l=>
    obtain⟨u,hu,hj,_⟩:=mem_ready.1 (show j∈Region.ready .any ops listed by rw[hc];exact List.mem_cons_self ..)
    have hjl:=lt_size hu
    obtain⟨e,he,hb,rfl⟩:=hl.waits j hjl
    have:=h2 e he hb
    rw[push_getD,if_neg (by omega)] at this
    rw[Array.getD_eq_getD_getElem?,Array.getElem?_eq_getElem (by omega)] at this hj
    simp only[Option.getD_some] at this hj
    rw[hj] at this;cases this
  ·refine .inl (mem_ready.2 ⟨u,by rw[Array.getElem?_push,if_neg e] at hu;exact hu,by rw[push_getD,if_neg (by omega)] at h1;exact h1,fun x hx hb=>?_⟩)
   rw[Array.getElem?_push,if_neg e] at hu
   have h3:=hl.ons u (Array.mem_of_getElem? hu) x hx
   have:=h2 x hx hb
   rw[push_getD,if_neg (by omega)] at this
   exact this
 intro fuel;induction fuel with
 | zero=>
  intro listed a w hsz h;obtain⟨hr,ht⟩:=h
  refine⟨fun he=>?_,fun i hi=>?_⟩
  ·have:=last_in listed hsz hr
   rw[he] at this;cases this
  ·rcases in_old listed i hsz hi with h1 | ⟨rfl,h1⟩
   ·rw[hr] at h1;cases h1
   ·exact stop 0 listed a w hsz hr ht
 | succ fuel ih=>
  intro listed a w hsz h;obtain⟨h0,h1⟩:=h
  refine⟨fun he=>?_,fun i hi=>?_⟩
  ·by_cases hr:Region.ready .any ops listed=[]
   ·have:=last_in listed hsz hr
    rw[he] at this;cases this
   ·obtain⟨i,hi⟩:=List.exists_mem_of_ne_nil _ hr
    have:=old_in listed i hsz hi
    rw[he] at this;cases this
  ·rcases in_old listed i hsz hi with hin | ⟨rfl,hr⟩
   ·have hop:=h1 i hin
    obtain⟨u,hu,_,_⟩:=mem_ready.1 hin
    have hlt:=lt_size hu
    have hset:(listed.push false).setIfInBounds i true=(listed.setIfInBounds i true).push false:=by
     apply Array.ext_getElem?
     intro k;simp only[Array.getElem?_setIfInBounds,Array.getElem?_push,Array.size_push,Array.size_setIfInBounds]
     by_cases e:i=k
     ·subst e;simp[hsz,hlt,Nat.ne_of_lt hlt,Nat.lt_succ_of_lt hlt]
     ·simp[e]
    rw[hset];unfold wpOp at hop ⊢
    rw[hu] at hop;rw[Array.getElem?_push,if_neg (by omega),hu]
    simp only at hop ⊢
    have hw:Region.wanted u (yielded (ops.push o) a.tmps)=Region.wanted u (yielded ops a.tmps):=by
     unfold Region.wanted;cases hg:u.guard with
     | none=>rfl
     | some x=>
      obtain⟨g,b⟩:=x
      have:=hl.guard u (Array.mem_of_getElem? hu) g b hg
      simp only[yielded]
      rw[Array.getElem?_push,if_neg (by omega)]
    rw[hw];split
    ·rename_i hwt
     rw[if_pos hwt] at hop
     rcases hop with h | h
     ·exact .inl (wp_then (fun a w hh=>ih _ a w (by simpa using hsz) hh) h)
     ·exact .inr ⟨h.1,h.2⟩
    ·rename_i hwt
     rw[if_neg hwt] at hop
     exact ih _ _ _ (by simpa using hsz) hop
   ·exact stop (fuel+1) listed a w hsz hr (h0 hr)
variable {R:World→World→Prop} {w0:World} {a0:Act} {D:List (List Nat)} {C:List Nat} {F:List Value→World→Prop}
theorem wp_region_ahead {id:Nat} (all l:List Oper) (o:Oper)(heq:all=l++[o]) (R:World→World→Prop) (C:List Nat) (F:List Value→World→Prop)(hm:P.follows .mixedOrders=true)(hrefl:∀ a,R a a)(htr:∀ a b c,R a b→R b c→R a c) (D:List (List Nat)) {n:Nat}(hn:a0.tmps.size=n)
  (hok:okB l.toArray n D=true)(hch:chainB l.toArray C=true)(hla:lastB l.toArray o=true)(hr0:R w0 { w0 with drawn:=w0.drawn+1 })(hF:F [] { w0 with drawn:=w0.drawn+1 })
  (h:Walk P l.toArray R C F w0 (Then P o Q) a0 D l []):(Code.region id all.toArray true).wp P Q a0 w0:=by
 subst hn;subst heq;have hok:=Ok.of hok
 have hC:=Chained.of hch
 have hL:=Last.of hla
 obtain⟨specs,hE⟩:=each_of_walk hok l D [] (by simp) (by simp) (by simp) (by simp) (by simp) (by simp) h
 refine wp_region_any hm ?_
 have hnone:∀ k,k<l.toArray.size→(Array.replicate l.toArray.size false).getD k true=false:=by
  intro k hk;have hkl:k<l.length:=by simpa using hk
  simp[Array.getD_eq_getD_getElem?,hkl]
 have e1:(l++[o]).toArray=l.toArray.push o:=by simp
 have e2:Array.replicate (l.toArray.push o).size false=(Array.replicate l.toArray.size false).push false:=by
  apply Array.ext_getElem?
  intro k;simp only[Array.getElem?_replicate,Array.getElem?_push,Array.size_push,Array.size_replicate]
  by_cases e:k=l.toArray.size
  ·simp[e]
  ·rw[if_neg e]
   by_cases e2:k<l.toArray.size
   ·rw[if_pos (by omega),if_pos e2]
   ·rw[if_neg (by omega),if_neg e2]
 rw[e1,e2,Array.size_push];refine any_last hok hL _ _ _ _ (by simp) ?_
 refine any_of_each hrefl htr hok hC hE _ _ _ _ ⟨by simp,hr0,rfl,rfl,?_,fun _ _=>rfl,?_,0,Nat.zero_le _,?_,by simpa using hF⟩ ?_ ?_
 ·intro k u hk hl;rw[hnone k (lt_size hk)] at hl
  cases hl
 ·intro k u d s hk hl;rw[hnone k (lt_size hk)] at hl
  cases hl
 ·intro m c hm;rw[hnone c (hC.lt c (List.mem_of_getElem? hm))]
  simp
 ·intro i hi _ hz;rw[hz] at hi;exact absurd hi (Nat.not_lt_zero _)
 ·rw[Array.toList_replicate];exact Nat.le_trans (List.length_filter_le _ _) (by simp)
theorem wp_region_last {id:Nat} (all:List Oper) (o:Oper)(heq:all=all.dropLast++[o]) (R:World→World→Prop) (C:List Nat) (F:List Value→World→Prop)(hm:P.follows .mixedOrders=true)(hrefl:∀ a,R a a)(htr:∀ a b c,R a b→R b c→R a c) (D:List (List Nat)) {n:Nat}(hn:a0.tmps.size=n)
  (hok:okB all.dropLast.toArray n D=true)(hch:chainB all.dropLast.toArray C=true)(hla:lastB all.dropLast.toArray o=true)(hr0:R w0 { w0 with drawn:=w0.drawn+1 })(hF:F [] { w0 with drawn:=w0.drawn+1 })
  (h:Walk P all.dropLast.toArray R C F w0 (Then P o Q) a0 D all.dropLast []):(Code.region id all.toArray true).wp P Q a0 w0:=
 wp_region_ahead all all.dropLast o heq R C F hm hrefl htr D hn hok hch hla hr0 hF h
theorem Walk.chainE (m:Nat) {js:List Nat}{E:List (List Nat)}{o:Oper}{os:List Oper}{specs:List Spec}{c:Value}(hd:o.dst.isSome=true)(hi:C[m]? = some specs.length)
  (h:∀ w,R w0 w→∀ vs:List Value,vs.length=m→F vs w→∀ N:Value→World→Prop,(∀ w',R w w'→F (vs++[c]) w'→N c w')→Ob P ops o N w (depsOf ops (chained C vs specs) js) a0)
  (hrest:Walk P ops R C F w0 Q a0 E os (specs++[Sum.inl c])):Walk P ops R C F w0 Q a0 (js::E) (o::os) specs:=
 ⟨.inl c,⟨trivial,fun e=>by rw[e] at hd;cases hd⟩,.inr (.inr ⟨m,hi,rfl,fun w hw vs hv hF N hN=>h w hw vs hv hF N (fun w' hr hf=>hN c w' rfl hr (by rw[show valIn o c=c by unfold valIn;cases ho:o.dst with | some _=>rfl | none=>rw[ho] at hd;cases hd];exact hf))⟩),hrest⟩
end
end Go.Proofs.YtobegmcbfgnpnaaGreatDoor.Ch
