/-
  A region that draws its order, whose operations turn memory in one direction only (a preorder R on worlds: new blocks, say): EACH OPERATION IS LOOKED AT ONCE, under what is known of those that it waits for, whatever else has run. Over any program.
  'Spec': what is known of an operation's value: it is this one (inl), or it has this property, which later worlds keep (inr).
-/
import Derived.Orders
import Derived.Tactics2
import Derived.KernelRfl
set_option linter.unusedVariables false
set_option linter.unusedSimpArgs false
set_option maxHeartbeats 0
set_option maxRecDepth 200000
namespace Go.Proofs.YtobegmcbfgnpnaaGreatDoor
abbrev Spec:=Value ⊕ (Value→World→Prop)
def Spec.holds (s:Spec) (v:Value) (w:World):Prop:=match s with | .inl c=>v=c | .inr φ=>φ v w
def Spec.keeps (R:World→World→Prop) (s:Spec):Prop:=match s with | .inl _=>True | .inr φ=>∀ v w w',φ v w→R w w'→φ v w'
theorem Spec.kept {R:World→World→Prop}{s:Spec}(h:Spec.keeps R s) {v:Value}{w w':World}(hh:Spec.holds s v w)(hr:R w w'):Spec.holds s v w':=by
 cases s with
 | inl c=>exact hh
 | inr φ=>exact h v w w' hh hr
def gives (P:Program) (N:Value→World→Prop):Result Next→Prop
 | .ok (.value v) w'=>N v w'
 | .ok .skip w'=>N undef w'
 | .ok (.enter f args) w'=>Calls P f args w' fun e w''=>∃ v,e = .returned v∧N v w''
 | _=>False
@[go_sem] theorem gives_value (P:Program) (N:Value→World→Prop) (v:Value) (w:World):gives P N (.ok (.value v) w)=N v w:=rfl
@[go_sem] theorem gives_skip (P:Program) (N:Value→World→Prop) (w:World):gives P N (.ok .skip w)=N undef w:=rfl
@[go_sem] theorem gives_enter (P:Program) (N:Value→World→Prop) (f:FuncId) (args:Array Value) (w:World) :
 gives P N (.ok (.enter f args) w)=Calls P f args w fun e w''=>∃ v,e = .returned v∧N v w'':=rfl
section
variable {P:Program} {ops:Array Oper} {R:World→World→Prop} {w0:World} {a0:Act} {Q:Exit→Act→World→Prop} {D:List (List Nat)}
theorem upon_of_gives {o:Oper}{a:Act}{K:Act→World→Prop}{r:Result Next}(h:gives P (fun v w'=>K (a.put o.dst v) w') r):o.upon P a K Q r:=by
 cases r with
 | ok n w'=>
  cases n<;>simp only[gives] at h<;>simp only[Oper.upon]
  case value v=>exact h
  case skip=>exact h
  case enter f args=>exact h.mono fun e w'' ⟨v,he,hk⟩=>by subst he;exact hk
 | halt x w'=>simp only[gives] at h
def Ob (P:Program) (ops:Array Oper) (o:Oper) (N:Value→World→Prop) (w:World):List (Nat×Spec)→Act→Prop
 | [],a=>if Region.wanted o (yielded ops a.tmps)=true then gives P N ((execOp a.eval o).run P w) else N undef w
 | (t,.inl c)::ds,a=>Ob P ops o N w ds (a.put (some t) c)
 | (t,.inr φ)::ds,a=>∀ v,φ v w→Ob P ops o N w ds (a.put (some t) v)
def depsOf (ops:Array Oper) (specs:List Spec) (js:List Nat):List (Nat×Spec):=
 js.filterMap fun j=>match (ops[j]?).bind (·.dst),specs[j]? with
  | some t,some s=>some (t,s)
  | _,_=>none
def Fin (Q:Exit→Act→World→Prop) (w:World):List Oper→List Spec→Act→Prop
 | o::os,.inl c::ss,a=>Fin Q w os ss (a.put o.dst c)
 | o::os,.inr φ::ss,a=>∀ v,φ v w→Fin Q w os ss (a.put o.dst v)
 | _,_,a=>Q .normal a w
def Walk (P:Program) (ops:Array Oper) (R:World→World→Prop) (w0:World) (Q:Exit→Act→World→Prop) (a0:Act):List (List Nat)→List Oper→List Spec→Prop
 | js::D,o::os,specs=>∃ s:Spec,(Spec.keeps R s∧(o.dst.isNone=true→s.isLeft=true))∧
  (∀ w,R w0 w→∀ N:Value→World→Prop,(∀ v w',Spec.holds s v w'→R w w'→N v w')→Ob P ops o N w (depsOf ops specs js) a0)∧Walk P ops R w0 Q a0 D os (specs++[s])
 | _,[],specs=>∀ w,R w0 w→Fin Q w ops.toList specs a0
 | [],_::_,_=>False
def okB (ops:Array Oper) (n:Nat) (D:List (List Nat)):Bool:=
 D.length==ops.size&&(List.range ops.size).all fun i=>
  match ops[i]?,D[i]? with
  | some o,some js=>
   o.after.all (fun e=>decide (e.on<i)) &&
   js.all (fun j=>decide (j<i)&&o.after.any (fun e=>Region.binds .any e&&e.on==j)) &&
   (match o.dst with | some d=>decide (d<n) | none=>true) &&
   (o.op matches .select .. )==false &&
   (List.range ops.size).all fun k=>
    match ops[k]? with
    | some u=>(k==i||u.dst==none||u.dst != o.dst) &&
     (match u.dst with
      | some t=>!(o.looksAt ops).contains t||js.contains k||u.after.any (fun e=>Region.binds .any e&&e.on==i)
      | none=>true)
    | none=>true
  | _,_=>false
structure Ok (ops:Array Oper) (n:Nat) (D:List (List Nat)):Prop where
 len:D.length=ops.size
 lower:∀ (i:Nat) (o:Oper),ops[i]? = some o→∀ e∈o.after,e.on<i
 deps:∀ (i:Nat) (o:Oper) (js:List Nat),ops[i]? = some o→D[i]? = some js→∀ j∈js,j<i∧∃ e∈o.after,Region.binds .any e=true∧e.on=j
 size:∀ (i:Nat) (o:Oper) d,ops[i]? = some o→o.dst=some d→d<n
 sel:∀ (i:Nat) (o:Oper) cs b,ops[i]? = some o→o.op≠.select cs b
 apart:∀ (i k:Nat) (o u:Oper) d,ops[i]? = some o→ops[k]? = some u→o.dst=some d→u.dst=some d→k=i
 reads:∀ (i k:Nat) (o u:Oper) (js:List Nat) t,ops[i]? = some o→D[i]? = some js→ops[k]? = some u→u.dst=some t→t∈o.looksAt ops→k∈js∨∃ e∈u.after,Region.binds .any e=true∧e.on=i
theorem lt_size {i:Nat}{o:Oper}(h:ops[i]? = some o):i<ops.size:=(Array.getElem?_eq_some_iff.1 h).1
theorem Ok.of {n:Nat}(h:okB ops n D=true):Ok ops n D:=by
 unfold okB at h;simp only[Bool.and_eq_true,beq_iff_eq,List.all_eq_true,List.mem_range] at h
 obtain⟨hlen,h⟩:=h
 have row:∀ i o,ops[i]? = some o→∃ js,D[i]? = some js:=fun i o hi=>⟨_,List.getElem?_eq_getElem (by have:=lt_size hi;omega)⟩
 refine⟨hlen,?_,?_,?_,?_,?_,?_⟩
 ·intro i o hi e he;obtain⟨js,hj⟩:=row i o hi
  have:=h i (lt_size hi)
  simp only[hi,hj,Bool.and_eq_true,Array.all_eq_true_iff_forall_mem,decide_eq_true_eq] at this
  exact this.1.1.1.1 e he
 ·intro i o js hi hj j hm;have:=h i (lt_size hi)
  simp only[hi,hj,Bool.and_eq_true,List.all_eq_true,decide_eq_true_eq] at this
  have h2:=this.1.1.1.2 j hm
  refine⟨h2.1,?_⟩
  obtain⟨e,he,h3⟩:=Array.any_eq_true'.1 h2.2
  simp only[Bool.and_eq_true,beq_iff_eq] at h3
  exact⟨e,he,h3.1,h3.2⟩
 ·intro i o d hi hd;obtain⟨js,hj⟩:=row i o hi
  have:=h i (lt_size hi)
  simp only[hi,hj,hd,Bool.and_eq_true,decide_eq_true_eq] at this
  exact this.1.1.2
 ·intro i o cs b hi he;obtain⟨js,hj⟩:=row i o hi
  have:=h i (lt_size hi)
  simp only[hi,hj,Bool.and_eq_true] at this
  have h2:=this.1.2
  rw[he] at h2;simp at h2
 ·intro i k o u d hi hk hd hu;obtain⟨js,hj⟩:=row i o hi
  have:=h i (lt_size hi)
  simp only[hi,hj,Bool.and_eq_true,List.all_eq_true,List.mem_range] at this
  have h2:=this.2 k (lt_size hk)
  simp only[hk,hu,hd,Bool.and_eq_true] at h2
  have h3:=h2.1
  simpa using h3
 ·intro i k o u js t hi hj hk hu ht;have:=h i (lt_size hi)
  simp only[hi,hj,Bool.and_eq_true,List.all_eq_true,List.mem_range] at this
  have h2:=this.2 k (lt_size hk)
  simp only[hk,hu,Bool.and_eq_true] at h2
  have h3:=h2.2
  simp only[Bool.or_eq_true,Bool.not_eq_true',List.contains_eq_mem,decide_eq_true_eq,decide_eq_false_iff_not] at h3
  rcases h3 with (h3 | h3) | h3
  ·exact absurd ht h3
  ·exact .inl h3
  ·obtain⟨e,he,h4⟩:=Array.any_eq_true'.1 h3
   simp only[Bool.and_eq_true,beq_iff_eq] at h4
   exact .inr ⟨e,he,h4.1,h4.2⟩
theorem put_size (a:Act) (d:Option Nat) (v:Value):(a.put d v).tmps.size=a.tmps.size:=by
 cases d<;>simp[Act.put]
theorem put_get (a:Act) (d t:Nat) (v:Value)(h:d<a.tmps.size):(a.put (some d) v).tmps.getD t undef=if t=d then v else a.tmps.getD t undef:=by
 simp only[Act.put,Array.getD_eq_getD_getElem?,Array.getElem?_setIfInBounds]
 by_cases e:d=t
 ·subst e;simp[h]
 ·rw[if_neg e,if_neg (Ne.symm e)]
theorem put_def (a:Act) (d:Option Nat) (v:Value):(a.put d v).defers=a.defers:=by cases d<;>rfl
def lay (a:Act):List (Nat×Spec)→Act→Act
 | [],b=>b
 | (t,_)::ds,b=>lay a ds (b.put (some t) (a.tmps.getD t undef))
theorem lay_get (a:Act):∀ (ds:List (Nat×Spec)) (b:Act),(∀ x∈ds,x.1<b.tmps.size)→
  (lay a ds b).tmps.size=b.tmps.size∧(∀ t,(lay a ds b).tmps.getD t undef=if t∈ds.map (·.1) then a.tmps.getD t undef else b.tmps.getD t undef)
 | [],b,_=>by simp[lay]
 | (t,s)::ds,b,h=>by
  have h0:t<b.tmps.size:=h _ (List.mem_cons_self ..)
  have ih:=lay_get a ds (b.put (some t) (a.tmps.getD t undef)) (fun x hx=>by rw[put_size];exact h x (List.mem_cons_of_mem _ hx))
  refine⟨by rw[lay,ih.1,put_size],fun u=>?_⟩
  rw[lay,ih.2,put_get _ _ _ _ h0]
  by_cases hu:u∈ds.map (·.1)
  ·rw[if_pos hu,if_pos (by simp only[List.map_cons];exact List.mem_cons_of_mem _ hu)]
  ·rw[if_neg hu]
   by_cases e:u=t
   ·subst e;rw[if_pos rfl,if_pos (by simp)]
   ·rw[if_neg e,if_neg (by simp only[List.map_cons,List.mem_cons,not_or];exact⟨e,hu⟩)]
theorem ob_at {o:Oper}{N:Value→World→Prop}{w:World} (a:Act):∀ (ds:List (Nat×Spec)) (b:Act),Ob P ops o N w ds b→(∀ x∈ds,Spec.holds x.2 (a.tmps.getD x.1 undef) w)→
  Ob P ops o N w [] (lay a ds b)
 | [],_,h,_=>h
 | (t,.inl c)::ds,b,h,hd=>by
  have h0:a.tmps.getD t undef=c:=hd _ (List.mem_cons_self ..)
  rw[lay,h0];exact ob_at a ds _ h fun x hx=>hd x (List.mem_cons_of_mem _ hx)
 | (t,.inr φ)::ds,b,h,hd=>by
  have h0:φ (a.tmps.getD t undef) w:=hd _ (List.mem_cons_self ..)
  rw[lay];exact ob_at a ds _ (h _ h0) fun x hx=>hd x (List.mem_cons_of_mem _ hx)
theorem same_run {o:Oper}{a b:Act}(hs:∀ cs c,o.op≠.select cs c)(hz:a.tmps.size=b.tmps.size)(h:∀ t∈o.looksAt ops,a.tmps.getD t undef=b.tmps.getD t undef) :
  execOp a.eval o=execOp b.eval o∧Region.wanted o (yielded ops a.tmps)=Region.wanted o (yielded ops b.tmps):=by
 constructor
 ·refine execOp_congr o hs fun x hx=>?_
  cases x with
  | tmp t=>exact h t (List.mem_append_left _ (List.mem_filterMap.2 ⟨.tmp t,by simpa using hx,rfl⟩))
  | _=>rfl
 ·unfold Region.wanted;cases hg:o.guard with
  | none=>rfl
  | some gw=>
   obtain⟨g,b'⟩:=gw
   simp only
   congr 1
   unfold yielded;cases hd:(ops[g]?).bind (·.dst) with
   | none=>rfl
   | some d=>
    have hm:d∈o.looksAt ops:=by
     unfold Oper.looksAt;rw[hg];simp only
     rw[hd];exact List.mem_append_right _ (by simp)
    have:=h d hm
    simp only[Array.getD_eq_getD_getElem?] at this
    simp only[Option.bind_some]
    by_cases hl:d<a.tmps.size
    ·have hl2:d<b.tmps.size:=hz ▸ hl
     rw[Array.getElem?_eq_getElem hl,Array.getElem?_eq_getElem hl2] at this ⊢
     simp only[Option.getD_some] at this
     rw[this]
    ·have hl2:¬d<b.tmps.size:=hz ▸ hl
     rw[Array.getElem?_eq_none (Nat.le_of_not_lt hl),Array.getElem?_eq_none (Nat.le_of_not_lt hl2)]
structure Inv (ops:Array Oper) (R:World→World→Prop) (w0:World) (a0:Act) (specs:List Spec) (listed:Array Bool) (a:Act) (w:World):Prop where
 len:listed.size=ops.size
 rel:R w0 w
 size:a.tmps.size=a0.tmps.size
 defers:a.defers=a0.defers
 down:∀ (k:Nat) u,ops[k]? = some u→listed.getD k true=true→∀ e∈u.after,Region.binds .any e=true→listed.getD e.on false=true
 old:∀ t,(∀ (k:Nat) u,ops[k]? = some u→listed.getD k true=true→u.dst≠some t)→a.tmps.getD t undef=a0.tmps.getD t undef
 new:∀ (k:Nat) u d s,ops[k]? = some u→listed.getD k true=true→u.dst=some d→specs[k]? = some s→Spec.holds s (a.tmps.getD d undef) w
structure Each (P:Program) (ops:Array Oper) (R:World→World→Prop) (w0:World) (Q:Exit→Act→World→Prop) (a0:Act) (D:List (List Nat)) (specs:List Spec):Prop where
 len:specs.length=ops.size
 keeps:∀ s∈specs,Spec.keeps R s
 none:∀ (i:Nat) (o:Oper) s,ops[i]? = some o→specs[i]? = some s→o.dst.isNone=true→s.isLeft=true
 one:∀ (i:Nat) o js s,ops[i]? = some o→D[i]? = some js→specs[i]? = some s→
  ∀ w,R w0 w→∀ N:Value→World→Prop,(∀ v w',Spec.holds s v w'→R w w'→N v w')→Ob P ops o N w (depsOf ops specs js) a0
 fin:∀ w,R w0 w→Fin Q w ops.toList specs a0
theorem depsOf_take (specs more:List Spec) (js:List Nat)(h:∀ j∈js,j<specs.length):depsOf ops (specs++more) js=depsOf ops specs js:=by
 unfold depsOf;induction js with
 | nil=>rfl
 | cons j js ih=>
  have h0:=h j (List.mem_cons_self ..)
  simp only[List.filterMap_cons,List.getElem?_append_left h0]
  rw[ih fun i hi=>h i (List.mem_cons_of_mem _ hi)]
theorem each_of_walk (hok:Ok ops a0.tmps.size D):∀ (os:List Oper) (D':List (List Nat)) (specs:List Spec),ops.toList.drop specs.length=os→D.drop specs.length=D'→specs.length≤ops.size→
  (∀ s∈specs,Spec.keeps R s)→
  (∀ (i:Nat) (o:Oper) s,ops[i]? = some o→specs[i]? = some s→o.dst.isNone=true→s.isLeft=true)→
  (∀ (i:Nat) o js s,ops[i]? = some o→D[i]? = some js→specs[i]? = some s→∀ w,R w0 w→∀ N:Value→World→Prop,(∀ v w',Spec.holds s v w'→R w w'→N v w')→Ob P ops o N w (depsOf ops specs js) a0)→
  Walk P ops R w0 Q a0 D' os specs→∃ specs',Each P ops R w0 Q a0 D specs':=by
 intro os;induction os with
 | nil=>
  intro D' specs hos hD hle hk h0 h1 hw;have hl:specs.length=ops.size:=by
   have:=congrArg List.length hos
   simp at this
   omega
  refine⟨specs,hl,hk,h0,h1,?_⟩
  cases D'<;>exact hw
 | cons o os ih=>
  intro D' specs hos hD hle hk h0 h1 hw;cases D' with
  | nil=>exact hw.elim
  | cons js D'=>
   obtain⟨s,⟨hs,hnone⟩,hone,hrest⟩:=hw
   have hlt:specs.length<ops.size:=by
    have:=congrArg List.length hos
    simp at this
    omega
   have hoi:ops[specs.length]? = some o:=by
    have:=congrArg (·[0]?) hos
    simpa using this
   have hji:D[specs.length]? = some js:=by
    have:=congrArg (·[0]?) hD
    simpa using this
   refine ih D' (specs++[s]) ?_ ?_ (by simp;omega) ?_ ?_ ?_ hrest
   ·have:=congrArg List.tail hos
    simpa [List.tail_drop] using this
   ·have:=congrArg List.tail hD
    simpa [List.tail_drop] using this
   ·intro x hx;rcases List.mem_append.1 hx with hx | hx
    ·exact hk x hx
    ·simp only[List.mem_singleton] at hx;subst hx;exact hs
   ·intro i u x hi hx hd;by_cases hil:i<specs.length
    ·rw[List.getElem?_append_left hil] at hx
     exact h0 i u x hi hx hd
    ·have hie:i=specs.length:=by
      have:=(List.getElem?_eq_some_iff.1 hx).1
      simp at this
      omega
     subst hie;rw[hoi] at hi;obtain rfl:=Option.some.inj hi
     simp at hx
     subst hx;exact hnone hd
   ·intro i u ks x hi hj hx w hr N hN;have hdep:∀ j∈ks,j<i:=fun j hm=>(hok.deps i u ks hi hj j hm).1
    by_cases hil:i<specs.length
    ·rw[depsOf_take _ _ _ (fun j hm=>by have:=hdep j hm;omega)]
     rw[List.getElem?_append_left hil] at hx
     exact h1 i u ks x hi hj hx w hr N hN
    ·have hie:i=specs.length:=by
      have:=(List.getElem?_eq_some_iff.1 hx).1
      simp at this
      omega
     subst hie;rw[hoi] at hi;rw[hji] at hj;obtain rfl:=Option.some.inj hi
     obtain rfl:=Option.some.inj hj
     simp at hx
     subst hx;rw[depsOf_take _ _ _ (fun j hm=>hdep j hm)]
     exact hone w hr N hN
theorem fin_at {w:World} (a:Act):∀ (os:List Oper) (ss:List Spec) (b:Act),Fin Q w os ss b→os.length=ss.length→
  (∀ (i:Nat) o d s,os[i]? = some o→o.dst=some d→ss[i]? = some s→Spec.holds s (a.tmps.getD d undef) w)→
  (∀ (i:Nat) o s,os[i]? = some o→o.dst=none→ss[i]? = some s→∃ v,Spec.holds s v w)→
  (∀ o∈os,∀ d,o.dst=some d→d<b.tmps.size)→
  a.tmps.size=b.tmps.size→a.defers=b.defers→(∀ t,(∀ o∈os,o.dst≠some t)→a.tmps.getD t undef=b.tmps.getD t undef)→Q .normal a w
 | [],_,b,h,_,_,_,_,hz,hd,hold=>by
  have:a=b:=by
   obtain⟨ta,da⟩:=a
   obtain⟨tb,db⟩:=b
   simp only at hz hd hold
   subst hd;congr 1
   apply Array.ext hz
   intro i h1 h2;have:=hold i (by simp)
   simpa [Array.getD_eq_getD_getElem?,Array.getElem?_eq_getElem h1,Array.getElem?_eq_getElem h2] using this
  subst this;simpa [Fin] using h
 | o::os,[],b,h,hl,_,_,_,_,_,_=>by simp at hl
 | o::os,s::ss,b,h,hl,hnew,hnone,hsz,hz,hd,hold=>by
  have step:∀ v,(∀ d,o.dst=some d→v=a.tmps.getD d undef)→Fin Q w os ss (b.put o.dst v)→Q .normal a w:=by
   intro v hv hf;refine fin_at a os ss _ hf (by simpa using hl) (fun i x d y hi hx hy=>hnew (i+1) x d y (by simpa using hi) hx (by simpa using hy))
    (fun i x y hi hx hy=>hnone (i+1) x y (by simpa using hi) hx (by simpa using hy)) (fun x hx d hxd=>by rw[put_size];exact hsz x (List.mem_cons_of_mem _ hx) d hxd) (by rw[put_size];exact hz) (by rw[put_def];exact hd) ?_
   intro t ht;cases hod:o.dst with
   | none=>
    have e0:b.put none v=b:=rfl
    rw[e0];exact hold t (fun x hx=>by
     rcases List.mem_cons.1 hx with rfl | hx
     ·rw[hod];simp
     ·exact ht x hx)
   | some d=>
    rw[put_get _ _ _ _ (hsz o (List.mem_cons_self ..) d hod)]
    by_cases e:t=d
    ·subst e;rw[if_pos rfl];exact (hv t hod).symm
    ·rw[if_neg e]
     exact hold t (fun x hx=>by
      rcases List.mem_cons.1 hx with rfl | hx
      ·rw[hod];simp only[ne_eq,Option.some.injEq];exact fun h=>e h.symm
      ·exact ht x hx)
  cases hod:o.dst with
  | none=>
   obtain⟨v,hv⟩:=hnone 0 o s rfl hod rfl
   refine step v (by rw[hod];simp) ?_
   cases s with
   | inl c=>
    have hvc:v=c:=hv
    subst hvc;simpa [Fin] using h
   | inr φ=>simp only[Fin] at h;exact h v hv
  | some d=>
   have hv:=hnew 0 o d s rfl hod rfl
   refine step (a.tmps.getD d undef) (by rw[hod];simp) ?_
   cases s with
   | inl c=>
    have hvc:a.tmps.getD d undef=c:=hv
    simp only[Fin] at h
    rw[hvc];exact h
   | inr φ=>simp only[Fin] at h;exact h _ hv
theorem ready_spec {listed:Array Bool}{i:Nat}(h:i∈Region.ready .any ops listed):∃ o,ops[i]? = some o∧listed.getD i true=false∧∀ e∈o.after,Region.binds .any e=true→listed.getD e.on false=true:=by
 unfold Region.ready at h;simp only[List.mem_filter,List.mem_range,Bool.and_eq_true,Bool.not_eq_true'] at h
 obtain⟨hi,hl,ha⟩:=h
 refine⟨ops[i],Array.getElem?_eq_getElem hi,hl,fun e he hb=>?_⟩
 rw[Array.getElem?_eq_getElem hi] at ha
 simp only[Option.map_some,Option.getD_some,Array.all_eq_true_iff_forall_mem,Bool.or_eq_true,Bool.not_eq_true'] at ha
 rcases ha e he with h1 | h1
 ·rw[hb] at h1;cases h1
 ·exact h1
theorem all_listed {n:Nat}(hok:Ok ops n D) {listed:Array Bool}(hlen:listed.size=ops.size)(h:Region.ready .any ops listed=[]):∀ i,i<ops.size→listed.getD i true=true:=by
 intro i;induction i using Nat.strongRecOn with
 | ind i ih=>
  intro hi;cases hl:listed.getD i true with
  | true=>rfl
  | false=>
   exfalso
   have hm:i∈Region.ready .any ops listed:=by
    unfold Region.ready;simp only[List.mem_filter,List.mem_range,Bool.and_eq_true,Bool.not_eq_true']
    refine⟨hi,hl,?_⟩
    rw[Array.getElem?_eq_getElem hi]
    simp only[Option.map_some,Option.getD_some,Array.all_eq_true_iff_forall_mem,Bool.or_eq_true,Bool.not_eq_true']
    intro e he;have hlt:=hok.lower i _ (Array.getElem?_eq_getElem hi) e he
    have:=ih e.on hlt (by omega)
    refine .inr ?_
    rw[Array.getD_eq_getD_getElem?,Array.getElem?_eq_getElem (by omega)] at this ⊢
    exact this
   rw[h] at hm;cases hm
theorem any_of_each {specs:List Spec}(htr:∀ a b c,R a b→R b c→R a c)(hok:Ok ops a0.tmps.size D)(hE:Each P ops R w0 Q a0 D specs) :
  ∀ (fuel:Nat) (listed:Array Bool) (a:Act) (w:World),Inv ops R w0 a0 specs listed a w→(∀ i,i<ops.size→listed.getD i true=false→fuel≠0)→
   (listed.toList.filter (· == false)).length≤fuel→wpAny P .any ops Q fuel listed a w:=by
 have stop:∀ (listed:Array Bool) (a:Act) (w:World),Inv ops R w0 a0 specs listed a w→Region.ready .any ops listed=[]→Q .normal a w:=by
  intro listed a w hI hr;have hall:=all_listed hok hI.len hr
  refine fin_at a ops.toList specs a0 (hE.fin w hI.rel) (by rw[Array.length_toList];exact hE.len.symm) ?_ ?_ ?_ hI.size hI.defers ?_
  ·intro i o d s hi hd hs;have hi':ops[i]? = some o:=by simpa using hi
   exact hI.new i o d s hi' (hall i (lt_size hi')) hd hs
  ·intro i o s hi hd hs;have hi':ops[i]? = some o:=by simpa using hi
   have:=hE.none i o s hi' hs (by rw[hd];rfl)
   cases s with
   | inl c=>exact⟨c,rfl⟩
   | inr φ=>cases this
  ·intro o ho d hd;obtain⟨i,hi,rfl⟩:=List.getElem_of_mem ho
   have hi2:i<ops.size:=by simpa using hi
   exact hok.size i _ d (Array.getElem?_eq_getElem hi2) hd
  ·intro t ht;refine hI.old t fun k u hk _=>ht u ?_
   exact Array.mem_toList_iff.2 (Array.mem_of_getElem? hk)
 intro fuel;induction fuel with
 | zero=>
  intro listed a w hI hf _;have hr:Region.ready .any ops listed=[]:=by
   cases h:Region.ready .any ops listed with
   | nil=>rfl
   | cons i l=>
    obtain⟨o,ho,hl,_⟩:=ready_spec (show i∈Region.ready .any ops listed by rw[h];exact List.mem_cons_self ..)
    exact absurd rfl (hf i (lt_size ho) hl)
  exact⟨hr,stop listed a w hI hr⟩
 | succ fuel ih=>
  intro listed a w hI _ hcount;refine⟨stop listed a w hI,fun i hi=>?_⟩
  obtain⟨o,ho,hli,hafter⟩:=ready_spec hi
  have hilt:=lt_size ho
  have hls:i<listed.size:=by rw[hI.len];exact hilt
  obtain⟨js,hjs⟩:∃ js,D[i]? = some js:=⟨_,List.getElem?_eq_getElem (by have:=hok.len;omega)⟩
  obtain⟨s,hs⟩:∃ s,specs[i]? = some s:=⟨_,List.getElem?_eq_getElem (by have:=hE.len;omega)⟩
  have getset:∀ (k:Nat) (b:Bool),(listed.setIfInBounds i true).getD k b=if k=i then true else listed.getD k b:=by
   intro k b;simp only[Array.getD_eq_getD_getElem?,Array.getElem?_setIfInBounds]
   by_cases e:i=k
   ·subst e;simp[hls]
   ·rw[if_neg e,if_neg (Ne.symm e)]
  have hsame:∀ (k:Nat),k<ops.size→listed.getD k false=true→listed.getD k true=true:=by
   intro k hk h;rw[Array.getD_eq_getD_getElem?,Array.getElem?_eq_getElem (by rw[hI.len];exact hk)] at h ⊢
   exact h
  have hN:∀ v w',Spec.holds s v w'→R w w'→wpAny P .any ops Q fuel (listed.setIfInBounds i true) (a.put o.dst v) w':=by
   intro v w' hv hr;have hI':Inv ops R w0 a0 specs (listed.setIfInBounds i true) (a.put o.dst v) w':=by
    refine⟨by simpa using hI.len,htr _ _ _ hI.rel hr,by rw[put_size];exact hI.size,by rw[put_def];exact hI.defers,?_,?_,?_⟩
    ·intro k u hk hlk e he hb;rw[getset] at hlk ⊢
     by_cases eo:e.on=i
     ·rw[if_pos eo]
     ·rw[if_neg eo]
      by_cases ek:k=i
      ·subst ek;rw[ho] at hk;obtain rfl:=Option.some.inj hk
       exact hafter e he hb
      ·rw[if_neg ek] at hlk
       exact hI.down k u hk hlk e he hb
    ·intro t ht;have hti:o.dst≠some t:=ht i o ho (by rw[getset,if_pos rfl])
     cases hd:o.dst with
     | none=>exact hI.old t fun k u hk hlk=>ht k u hk (by rw[getset];split;exact rfl;exact hlk)
     | some d=>
      rw[put_get _ _ _ _ (by rw[hI.size];exact hok.size i o d ho hd),if_neg (fun e=>hti (by rw[hd,e]))]
      exact hI.old t fun k u hk hlk=>ht k u hk (by rw[getset];split;exact rfl;exact hlk)
    ·intro k u d x hk hlk hd hx;by_cases ek:k=i
     ·subst ek;rw[ho] at hk;obtain rfl:=Option.some.inj hk
      rw[hs] at hx;obtain rfl:=Option.some.inj hx
      rw[hd,put_get _ _ _ _ (by rw[hI.size];exact hok.size k _ d ho hd),if_pos rfl]
      exact hv
     ·rw[getset,if_neg ek] at hlk
      have h1:=Spec.kept (hE.keeps x (List.mem_of_getElem? hx)) (hI.new k u d x hk hlk hd hx) hr
      cases hod:o.dst with
      | none=>exact h1
      | some d2=>
       rw[put_get _ _ _ _ (by rw[hI.size];exact hok.size i o d2 ho hod)]
       rw[if_neg (fun e=>by subst e;exact ek (hok.apart i k o u d ho hk hod hd))]
       exact h1
   have hc2:((listed.setIfInBounds i true).toList.filter (· == false)).length≤fuel:=by
    have hx:listed[i]=false:=by
     rw[Array.getD_eq_getD_getElem?,Array.getElem?_eq_getElem hls] at hli
     exact hli
    have e1:listed.toList=listed.toList.take i++false::listed.toList.drop (i+1):=by
     have h3:listed.toList[i]'(by simpa using hls)=false:=by simpa using hx
     rw[←h3,List.getElem_cons_drop,List.take_append_drop]
    have e2:(listed.setIfInBounds i true).toList=listed.toList.take i++true::listed.toList.drop (i+1):=by
     rw[Array.toList_setIfInBounds,List.set_eq_take_append_cons_drop,if_pos (by simpa using hls)]
    rw[e1] at hcount;rw[e2];simp only[List.filter_append,List.filter_cons,List.length_append] at hcount ⊢
    simp at hcount ⊢
    omega
   refine ih _ _ _ hI' ?_ hc2
   intro k hk hlk hz;subst hz;have:(listed.setIfInBounds i true).toList.filter (· == false)=[]:=List.eq_nil_of_length_eq_zero (by omega)
   have hkz:k<(listed.setIfInBounds i true).size:=by simp[hI.len];exact hk
   rw[Array.getD_eq_getD_getElem?,Array.getElem?_eq_getElem hkz] at hlk
   have hmem:false∈(listed.setIfInBounds i true).toList.filter (· == false):=by
    rw[List.mem_filter];refine⟨?_,by simp⟩
    have h4:(listed.setIfInBounds i true)[k]=false:=hlk
    rw[←h4];exact Array.mem_toList_iff.2 (Array.getElem_mem hkz)
   rw[this] at hmem;cases hmem
  have hob:=hE.one i o js s ho hjs hs w hI.rel _ hN
  have hdeps:∀ x∈depsOf ops specs js,∃ j u,j∈js∧ops[j]? = some u∧u.dst=some x.1∧specs[j]? = some x.2:=by
   intro x hx;unfold depsOf at hx;rw[List.mem_filterMap] at hx;obtain⟨j,hj,hx⟩:=hx
   cases hu:ops[j]? with
   | none=>simp[hu] at hx
   | some u=>
    cases hd:u.dst with
    | none=>simp[hu,hd] at hx
    | some t=>
     cases hsp:specs[j]? with
     | none=>simp[hu,hd,hsp] at hx
     | some sp=>
      simp[hu,hd,hsp] at hx
      subst hx;exact⟨j,u,hj,hu,hd,hsp⟩
  have hlisted:∀ j∈js,listed.getD j false=true:=by
   intro j hj;obtain⟨_,e,he,hb,rfl⟩:=hok.deps i o js ho hjs j hj
   exact hafter e he hb
  have hat:=ob_at a (depsOf ops specs js) a0 hob (fun x hx=>by
   obtain⟨j,u,hj,hu,hd,hsp⟩:=hdeps x hx
   exact hI.new j u x.1 x.2 hu (hsame j (lt_size hu) (hlisted j hj)) hd hsp)
  have hlay:=lay_get a (depsOf ops specs js) a0 (fun x hx=>by
   obtain⟨j,u,hj,hu,hd,hsp⟩:=hdeps x hx
   exact hok.size j u x.1 hu hd)
  have hrun:=same_run (ops:=ops) (o:=o) (a:=a) (b:=lay a (depsOf ops specs js) a0) (fun cs c=>hok.sel i o cs c ho) (by rw[hlay.1,hI.size]) (fun t ht=>by
   rw[hlay.2];by_cases hm:t∈(depsOf ops specs js).map (·.1)
   ·rw[if_pos hm]
   ·rw[if_neg hm]
    refine hI.old t fun k u hk hlk hd=>?_
    rcases hok.reads i k o u js t ho hjs hk hd ht with h1 | ⟨e,he,hb,h2⟩
    ·apply hm
     obtain⟨sp,hsp⟩:∃ sp,specs[k]? = some sp:=⟨_,List.getElem?_eq_getElem (by have:=hE.len;have:=lt_size hk;omega)⟩
     refine List.mem_map.2 ⟨(t,sp),?_,rfl⟩
     unfold depsOf;rw[List.mem_filterMap];exact⟨k,h1,by simp[hk,hd,hsp]⟩
    ·have:=hI.down k u hk hlk e he hb
     rw[h2] at this;rw[hsame i hilt this] at hli
     cases hli)
  unfold wpOp;simp only[ho]
  simp only[Ob] at hat
  rw[←hrun.1,←hrun.2] at hat;split
  ·rename_i hw
   rw[if_pos hw] at hat
   exact .inl (upon_of_gives hat)
  ·rename_i hw
   rw[if_neg hw] at hat
   exact hat
theorem wp_region_mono {id:Nat} (l:List Oper) (R:World→World→Prop)(hm:P.follows .mixedOrders=true)(htr:∀ a b c,R a b→R b c→R a c) (D:List (List Nat)) {n:Nat}(hn:a0.tmps.size=n)(hok:okB l.toArray n D=true)
  (hr0:R w0 { w0 with drawn:=w0.drawn+1 })(h:Walk P l.toArray R w0 Q a0 D l []):(Code.region id l.toArray true).wp P Q a0 w0:=by
 subst hn;have hok:=Ok.of hok
 obtain⟨specs,hE⟩:=each_of_walk hok l D [] (by simp) (by simp) (by simp) (by simp) (by simp) (by simp) h
 refine wp_region_any hm ?_
 refine any_of_each htr hok hE _ _ _ _ ⟨by simp,hr0,rfl,rfl,?_,fun _ _=>rfl,?_⟩ ?_ ?_
 ·intro k u hk hl;have hkl:k<l.length:=by simpa using lt_size hk
  simp[Array.getD_eq_getD_getElem?,hkl] at hl
 ·intro k u d s hk hl;have hkl:k<l.length:=by simpa using lt_size hk
  simp[Array.getD_eq_getD_getElem?,hkl] at hl
 ·intro i hi _ hz;rw[hz] at hi;exact absurd hi (Nat.not_lt_zero _)
 ·rw[Array.toList_replicate];exact Nat.le_trans (List.length_filter_le _ _) (by simp)
theorem Walk.eq {js:List Nat}{E:List (List Nat)}{o:Oper}{os:List Oper}{specs:List Spec}{c:Value}
  (h:∀ w,R w0 w→∀ N:Value→World→Prop,(∀ w',R w w'→N c w')→Ob P ops o N w (depsOf ops specs js) a0)
  (hrest:Walk P ops R w0 Q a0 E os (specs++[Sum.inl c])):Walk P ops R w0 Q a0 (js::E) (o::os) specs:=
 ⟨.inl c,⟨trivial,fun _=>rfl⟩,fun w hw N hN=>h w hw N (fun w' hr=>hN c w' rfl hr),hrest⟩
theorem Walk.sat (φ:Value→World→Prop)(hk:∀ v w w',φ v w→R w w'→φ v w') {js:List Nat}{E:List (List Nat)}{o:Oper}{os:List Oper}{specs:List Spec}(hd:o.dst.isNone=false)
  (h:∀ w,R w0 w→∀ N:Value→World→Prop,(∀ v w',φ v w'→R w w'→N v w')→Ob P ops o N w (depsOf ops specs js) a0)
  (hrest:Walk P ops R w0 Q a0 E os (specs++[Sum.inr φ])):Walk P ops R w0 Q a0 (js::E) (o::os) specs:=
 ⟨.inr φ,⟨hk,fun e=>by rw[hd] at e;cases e⟩,fun w hw N hN=>h w hw N (fun v w' hv hr=>hN v w' hv hr),hrest⟩
end
theorem depM :
  (∀ (ops:Array Oper) specs js,depsOf ops specs js=js.filterMap fun j=>match (ops[j]?).bind (·.dst),specs[j]? with | some t,some s=>some (t,s) | _,_=>none)∧
  (∀ f:Nat→Option (Nat×Spec),List.filterMap f []=[])∧
  (∀ (f:Nat→Option (Nat×Spec)) a l,List.filterMap f (a::l)=match f a with | none=>List.filterMap f l | some b=>b::List.filterMap f l)∧
  (∀ (l:List Oper) (i:Nat),l.toArray[i]? = l[i]?)∧
  (∀ (a:Oper) l,(a::l)[0]? = some a)∧(∀ (a:Oper) l i,(a::l)[i+1]? = l[i]?)∧
  (∀ (a:Spec) l,(a::l)[0]? = some a)∧(∀ (a:Spec) l i,(a::l)[i+1]? = l[i]?)∧
  (∀ (a:Oper) (f:Oper→Option Nat),(some a).bind f=f a)∧
  (∀ l:List Spec,[]++l=l)∧(∀ (a:Spec) l m,(a::l)++m=a::(l++m))∧
  (∀ (P:Program) (ops:Array Oper) (o:Oper) (N:Value→World→Prop) (w:World) a,Ob P ops o N w [] a=if Region.wanted o (yielded ops a.tmps)=true then gives P N ((execOp a.eval o).run P w) else N undef w)∧
  (∀ (P:Program) (ops:Array Oper) (o:Oper) (N:Value→World→Prop) (w:World) t c ds a,Ob P ops o N w ((t,.inl c)::ds) a=Ob P ops o N w ds (a.put (some t) c))∧
  (∀ (P:Program) (ops:Array Oper) (o:Oper) (N:Value→World→Prop) (w:World) t φ ds a,Ob P ops o N w ((t,.inr φ)::ds) a = ∀ v,φ v w→Ob P ops o N w ds (a.put (some t) v)):=
 ⟨fun _ _ _=>rfl,fun _=>rfl,fun f a l=>(by rw[List.filterMap_cons];cases f a<;>rfl),fun _ _=>List.getElem?_toArray,fun _ _=>rfl,fun _ _ _=>rfl,fun _ _=>rfl,fun _ _ _=>rfl,fun _ _=>rfl,fun _=>rfl,fun _ _ _=>rfl,fun _ _ _ _ _ _=>rfl,fun _ _ _ _ _ _ _ _ _=>rfl,fun _ _ _ _ _ _ _ _ _=>rfl⟩
end Go.Proofs.YtobegmcbfgnpnaaGreatDoor
