/-
  A region that draws its order: EACH OPERATION IS LOOKED AT ONCE, under what is known of those that it waits for, whatever else has run. Over any program.
  R: a preorder on worlds that every step keeps to. 'Spec': what is known of an operation's value: it is this one (inl); it has this property, which later worlds keep (inr inl); it is another operation's value (inr inr).
  C: a CHAIN: operations that stand in one forced order; F: what holds between two of them, of their values and of the world: no other operation touches it (appends onto one slice, behind one another).
-/
import Derived.Orders
import Derived.Tactics2
import Derived.KernelRfl
set_option linter.unusedVariables false
set_option linter.unusedSimpArgs false
set_option maxHeartbeats 0
set_option maxRecDepth 200000
namespace Go.Proofs.YtobegmcbfgnpnaaGreatDoor.Ch
abbrev Spec:=Value ⊕ (Value→World→Prop) ⊕ Nat
def Spec.holds (s:Spec) (ρ:Nat→Value) (v:Value) (w:World):Prop:=match s with | .inl c=>v=c | .inr (.inl φ)=>φ v w | .inr (.inr j)=>v=ρ j
def Spec.keeps (R:World→World→Prop) (s:Spec):Prop:=match s with | .inl _=>True | .inr (.inl φ)=>∀ v w w',φ v w→R w w'→φ v w' | .inr (.inr _)=>True
def Spec.looks (s:Spec):List Nat:=match s with | .inr (.inr j)=>[j] | _=>[]
theorem Spec.kept {R:World→World→Prop}{s:Spec}(h:Spec.keeps R s) {ρ:Nat→Value}{v:Value}{w w':World}(hh:Spec.holds s ρ v w)(hr:R w w'):Spec.holds s ρ v w':=by
 rcases s with c | φ | j
 ·exact hh
 ·exact h v w w' hh hr
 ·exact hh
theorem Spec.same {s:Spec}{ρ ρ':Nat→Value}{v:Value}{w:World}(h:∀ j∈s.looks,ρ j=ρ' j)(hh:Spec.holds s ρ v w):Spec.holds s ρ' v w:=by
 rcases s with c | φ | j
 ·exact hh
 ·exact hh
 ·exact (show v=ρ j from hh).trans (h j (by simp[Spec.looks]))
def gives (P:Program) (N:Value→World→Prop):Result Next→Prop
 | .ok (.value v) w'=>N v w'
 | .ok .skip w'=>N undef w'
 | .ok (.enter f args) w'=>Calls P f args w' fun e w''=>∃ v,e = .returned v∧N v w''
 | _=>False
@[go_sem] theorem gives_value (P:Program) (N:Value→World→Prop) (v:Value) (w:World):gives P N (.ok (.value v) w)=N v w:=rfl
@[go_sem] theorem gives_skip (P:Program) (N:Value→World→Prop) (w:World):gives P N (.ok .skip w)=N undef w:=rfl
@[go_sem] theorem gives_enter (P:Program) (N:Value→World→Prop) (f:FuncId) (args:Array Value) (w:World) :
 gives P N (.ok (.enter f args) w)=Calls P f args w fun e w''=>∃ v,e = .returned v∧N v w'':=rfl
section
variable {P:Program} {ops:Array Oper} {R:World→World→Prop} {w0:World} {a0:Act} {Q:Exit→Act→World→Prop} {D:List (List Nat)} {C:List Nat} {F:List Value→World→Prop}
theorem upon_of_gives {o:Oper}{a:Act}{K:Act→World→Prop}{r:Result Next}(h:gives P (fun v w'=>K (a.put o.dst v) w') r):o.upon P a K Q r:=by
 cases r with
 | ok n w'=>
  cases n<;>simp only[gives] at h<;>simp only[Oper.upon]
  case value v=>exact h
  case skip=>exact h
  case enter f args=>exact h.mono fun e w'' ⟨v,he,hk⟩=>by subst he;exact hk
 | halt x w'=>simp only[gives] at h
def Ob (P:Program) (ops:Array Oper) (o:Oper) (N:Value→World→Prop) (w:World):List (Nat×Spec)→Act→Prop
 | [],a=>if Region.wanted o (yielded ops a.tmps)=true then gives P N ((execOp a.eval o).run P w) else N undef w
 | (t,.inl c)::ds,a=>Ob P ops o N w ds (a.put (some t) c)
 | (t,.inr (.inl φ))::ds,a=>∀ v,φ v w→Ob P ops o N w ds (a.put (some t) v)
 | (t,.inr (.inr _))::ds,a=>∀ v,Ob P ops o N w ds (a.put (some t) v)
def depsOf (ops:Array Oper) (specs:List Spec) (js:List Nat):List (Nat×Spec):=
 js.filterMap fun j=>match (ops[j]?).bind (·.dst),specs[j]? with
  | some t,some s=>some (t,s)
  | _,_=>none
def chained (C:List Nat) (vs:List Value) (specs:List Spec):List Spec:=
 specs.mapIdx fun j s=>match C.idxOf? j with | some m=>.inl (vs.getD m undef) | none=>s
def Fin (Q:Exit→Act→World→Prop) (C:List Nat) (F:List Value→World→Prop) (w:World):List Oper→List Spec→List Value→Act→Prop
 | o::os,.inl c::ss,acc,a=>Fin Q C F w os ss (acc++[c]) (a.put o.dst c)
 | o::os,.inr (.inl φ)::ss,acc,a=>∀ v,φ v w→Fin Q C F w os ss (acc++[v]) (a.put o.dst v)
 | o::os,.inr (.inr j)::ss,acc,a=>Fin Q C F w os ss (acc++[acc.getD j undef]) (a.put o.dst (acc.getD j undef))
 | _,_,acc,a=>F (C.map fun j=>acc.getD j undef) w→Q .normal a w
def copies (ops:Array Oper) (o:Oper) (j:Nat):Prop:=o.guard=none∧∃ t,(o.op = .move (.tmp t)∨o.op = .assign (.tmp t))∧(ops[j]?).bind (·.dst)=some t
def valIn (o:Oper) (v:Value):Value:=match o.dst with | some _=>v | none=>undef
def One (P:Program) (ops:Array Oper) (R:World→World→Prop) (C:List Nat) (F:List Value→World→Prop) (w0:World) (a0:Act) (i:Nat) (o:Oper) (js:List Nat) (s:Spec) (specs:List Spec):Prop:=
 (i ∉ C∧(∀ w,R w0 w→∀ N:Value→World→Prop,(∀ v w',Spec.holds s (fun _=>undef) v w'→R w w'→(∀ vs,F vs w→F vs w')→N v w')→Ob P ops o N w (depsOf ops specs js) a0)∧s.looks=[])∨
 (i ∉ C∧∃ j,j∈js∧copies ops o j∧s = .inr (.inr j))∨
 (∃ m,C[m]? = some i∧s.looks=[]∧∀ w,R w0 w→∀ vs:List Value,vs.length=m→F vs w→∀ N:Value→World→Prop,
  (∀ v w',Spec.holds s (fun _=>undef) v w'→R w w'→F (vs++[valIn o v]) w'→N v w')→Ob P ops o N w (depsOf ops (chained C vs specs) js) a0)
def Walk (P:Program) (ops:Array Oper) (R:World→World→Prop) (C:List Nat) (F:List Value→World→Prop) (w0:World) (Q:Exit→Act→World→Prop) (a0:Act):List (List Nat)→List Oper→List Spec→Prop
 | js::D,o::os,specs=>∃ s:Spec,(Spec.keeps R s∧(o.dst=none→s = .inl undef))∧One P ops R C F w0 a0 specs.length o js s specs∧Walk P ops R C F w0 Q a0 D os (specs++[s])
 | _,[],specs=>∀ w,R w0 w→Fin Q C F w ops.toList specs [] a0
 | [],_::_,_=>False
def okB (ops:Array Oper) (n:Nat) (D:List (List Nat)):Bool:=
 D.length==ops.size&&(List.range ops.size).all fun i=>
  match ops[i]?,D[i]? with
  | some o,some js=>
   o.after.all (fun e=>!Region.binds .any e||decide (e.on<i)) &&
   js.all (fun j=>decide (j<i)&&o.after.any (fun e=>Region.binds .any e&&e.on==j)) &&
   (match o.dst with | some d=>decide (d<n) | none=>true) &&
   (o.op matches .select .. )==false &&
   (List.range ops.size).all fun k=>
    match ops[k]? with
    | some u=>(k==i||u.dst==none||u.dst != o.dst) &&
     (match u.dst with
      | some t=>!(o.looksAt ops).contains t||js.contains k||u.after.any (fun e=>Region.binds .any e&&e.on==i)
      | none=>true)
    | none=>true
  | _,_=>false
structure Ok (ops:Array Oper) (n:Nat) (D:List (List Nat)):Prop where
 len:D.length=ops.size
 lower:∀ (i:Nat) (o:Oper),ops[i]? = some o→∀ e∈o.after,Region.binds .any e=true→e.on<i
 deps:∀ (i:Nat) (o:Oper) (js:List Nat),ops[i]? = some o→D[i]? = some js→∀ j∈js,j<i∧∃ e∈o.after,Region.binds .any e=true∧e.on=j
 size:∀ (i:Nat) (o:Oper) d,ops[i]? = some o→o.dst=some d→d<n
 sel:∀ (i:Nat) (o:Oper) cs b,ops[i]? = some o→o.op≠.select cs b
 apart:∀ (i k:Nat) (o u:Oper) d,ops[i]? = some o→ops[k]? = some u→o.dst=some d→u.dst=some d→k=i
 reads:∀ (i k:Nat) (o u:Oper) (js:List Nat) t,ops[i]? = some o→D[i]? = some js→ops[k]? = some u→u.dst=some t→t∈o.looksAt ops→k∈js∨∃ e∈u.after,Region.binds .any e=true∧e.on=i
theorem lt_size {i:Nat}{o:Oper}(h:ops[i]? = some o):i<ops.size:=(Array.getElem?_eq_some_iff.1 h).1
theorem Ok.of {n:Nat}(h:okB ops n D=true):Ok ops n D:=by
 unfold okB at h;simp only[Bool.and_eq_true,beq_iff_eq,List.all_eq_true,List.mem_range] at h
 obtain⟨hlen,h⟩:=h
 have row:∀ i o,ops[i]? = some o→∃ js,D[i]? = some js:=fun i o hi=>⟨_,List.getElem?_eq_getElem (by have:=lt_size hi;omega)⟩
 refine⟨hlen,?_,?_,?_,?_,?_,?_⟩
 ·intro i o hi e he hb;obtain⟨js,hj⟩:=row i o hi
  have:=h i (lt_size hi)
  simp only[hi,hj,Bool.and_eq_true,Array.all_eq_true_iff_forall_mem] at this
  have h1:=this.1.1.1.1 e he
  rw[hb] at h1;simpa using h1
 ·intro i o js hi hj j hm;have:=h i (lt_size hi)
  simp only[hi,hj,Bool.and_eq_true,List.all_eq_true,decide_eq_true_eq] at this
  have h2:=this.1.1.1.2 j hm
  refine⟨h2.1,?_⟩
  obtain⟨e,he,h3⟩:=Array.any_eq_true'.1 h2.2
  simp only[Bool.and_eq_true,beq_iff_eq] at h3
  exact⟨e,he,h3.1,h3.2⟩
 ·intro i o d hi hd;obtain⟨js,hj⟩:=row i o hi
  have:=h i (lt_size hi)
  simp only[hi,hj,hd,Bool.and_eq_true,decide_eq_true_eq] at this
  exact this.1.1.2
 ·intro i o cs b hi he;obtain⟨js,hj⟩:=row i o hi
  have:=h i (lt_size hi)
  simp only[hi,hj,Bool.and_eq_true] at this
  have h2:=this.1.2
  rw[he] at h2;simp at h2
 ·intro i k o u d hi hk hd hu;obtain⟨js,hj⟩:=row i o hi
  have:=h i (lt_size hi)
  simp only[hi,hj,Bool.and_eq_true,List.all_eq_true,List.mem_range] at this
  have h2:=this.2 k (lt_size hk)
  simp only[hk,hu,hd,Bool.and_eq_true] at h2
  have h3:=h2.1
  simpa using h3
 ·intro i k o u js t hi hj hk hu ht;have:=h i (lt_size hi)
  simp only[hi,hj,Bool.and_eq_true,List.all_eq_true,List.mem_range] at this
  have h2:=this.2 k (lt_size hk)
  simp only[hk,hu,Bool.and_eq_true] at h2
  have h3:=h2.2
  simp only[Bool.or_eq_true,Bool.not_eq_true',List.contains_eq_mem,decide_eq_true_eq,decide_eq_false_iff_not] at h3
  rcases h3 with (h3 | h3) | h3
  ·exact absurd ht h3
  ·exact .inl h3
  ·obtain⟨e,he,h4⟩:=Array.any_eq_true'.1 h3
   simp only[Bool.and_eq_true,beq_iff_eq] at h4
   exact .inr ⟨e,he,h4.1,h4.2⟩
theorem put_size (a:Act) (d:Option Nat) (v:Value):(a.put d v).tmps.size=a.tmps.size:=by
 cases d<;>simp[Act.put]
theorem put_get (a:Act) (d t:Nat) (v:Value)(h:d<a.tmps.size):(a.put (some d) v).tmps.getD t undef=if t=d then v else a.tmps.getD t undef:=by
 simp only[Act.put,Array.getD_eq_getD_getElem?,Array.getElem?_setIfInBounds]
 by_cases e:d=t
 ·subst e;simp[h]
 ·rw[if_neg e,if_neg (Ne.symm e)]
theorem put_def (a:Act) (d:Option Nat) (v:Value):(a.put d v).defers=a.defers:=by cases d<;>rfl
def lay (a:Act):List (Nat×Spec)→Act→Act
 | [],b=>b
 | (t,_)::ds,b=>lay a ds (b.put (some t) (a.tmps.getD t undef))
theorem lay_get (a:Act):∀ (ds:List (Nat×Spec)) (b:Act),(∀ x∈ds,x.1<b.tmps.size)→
  (lay a ds b).tmps.size=b.tmps.size∧(∀ t,(lay a ds b).tmps.getD t undef=if t∈ds.map (·.1) then a.tmps.getD t undef else b.tmps.getD t undef)
 | [],b,_=>by simp[lay]
 | (t,s)::ds,b,h=>by
  have h0:t<b.tmps.size:=h _ (List.mem_cons_self ..)
  have ih:=lay_get a ds (b.put (some t) (a.tmps.getD t undef)) (fun x hx=>by rw[put_size];exact h x (List.mem_cons_of_mem _ hx))
  refine⟨by rw[lay,ih.1,put_size],fun u=>?_⟩
  rw[lay,ih.2,put_get _ _ _ _ h0]
  by_cases hu:u∈ds.map (·.1)
  ·rw[if_pos hu,if_pos (by simp only[List.map_cons];exact List.mem_cons_of_mem _ hu)]
  ·rw[if_neg hu]
   by_cases e:u=t
   ·subst e;rw[if_pos rfl,if_pos (by simp)]
   ·rw[if_neg e,if_neg (by simp only[List.map_cons,List.mem_cons,not_or];exact⟨e,hu⟩)]
theorem ob_at {o:Oper}{N:Value→World→Prop}{w:World} (ρ:Nat→Value) (a:Act):∀ (ds:List (Nat×Spec)) (b:Act),Ob P ops o N w ds b→(∀ x∈ds,Spec.holds x.2 ρ (a.tmps.getD x.1 undef) w)→
  Ob P ops o N w [] (lay a ds b)
 | [],_,h,_=>h
 | (t,.inl c)::ds,b,h,hd=>by
  have h0:a.tmps.getD t undef=c:=hd _ (List.mem_cons_self ..)
  rw[lay,h0];exact ob_at ρ a ds _ h fun x hx=>hd x (List.mem_cons_of_mem _ hx)
 | (t,.inr (.inl φ))::ds,b,h,hd=>by
  have h0:φ (a.tmps.getD t undef) w:=hd _ (List.mem_cons_self ..)
  rw[lay];exact ob_at ρ a ds _ (h _ h0) fun x hx=>hd x (List.mem_cons_of_mem _ hx)
 | (t,.inr (.inr j))::ds,b,h,hd=>by
  rw[lay];exact ob_at ρ a ds _ (h _) fun x hx=>hd x (List.mem_cons_of_mem _ hx)
theorem same_run {o:Oper}{a b:Act}(hs:∀ cs c,o.op≠.select cs c)(hz:a.tmps.size=b.tmps.size)(h:∀ t∈o.looksAt ops,a.tmps.getD t undef=b.tmps.getD t undef) :
  execOp a.eval o=execOp b.eval o∧Region.wanted o (yielded ops a.tmps)=Region.wanted o (yielded ops b.tmps):=by
 constructor
 ·refine execOp_congr o hs fun x hx=>?_
  cases x with
  | tmp t=>exact h t (List.mem_append_left _ (List.mem_filterMap.2 ⟨.tmp t,by simpa using hx,rfl⟩))
  | _=>rfl
 ·unfold Region.wanted;cases hg:o.guard with
  | none=>rfl
  | some gw=>
   obtain⟨g,b'⟩:=gw
   simp only
   congr 1
   unfold yielded;cases hd:(ops[g]?).bind (·.dst) with
   | none=>rfl
   | some d=>
    have hm:d∈o.looksAt ops:=by
     unfold Oper.looksAt;rw[hg];simp only
     rw[hd];exact List.mem_append_right _ (by simp)
    have:=h d hm
    simp only[Array.getD_eq_getD_getElem?] at this
    simp only[Option.bind_some]
    by_cases hl:d<a.tmps.size
    ·have hl2:d<b.tmps.size:=hz ▸ hl
     rw[Array.getElem?_eq_getElem hl,Array.getElem?_eq_getElem hl2] at this ⊢
     simp only[Option.getD_some] at this
     rw[this]
    ·have hl2:¬d<b.tmps.size:=hz ▸ hl
     rw[Array.getElem?_eq_none (Nat.le_of_not_lt hl),Array.getElem?_eq_none (Nat.le_of_not_lt hl2)]
def valOf (ops:Array Oper) (a:Act) (j:Nat):Value:=match (ops[j]?).bind (·.dst) with | some d=>a.tmps.getD d undef | none=>undef
structure Inv (ops:Array Oper) (R:World→World→Prop) (C:List Nat) (F:List Value→World→Prop) (w0:World) (a0:Act) (specs:List Spec) (listed:Array Bool) (a:Act) (w:World):Prop where
 len:listed.size=ops.size
 rel:R w0 w
 size:a.tmps.size=a0.tmps.size
 defers:a.defers=a0.defers
 down:∀ (k:Nat) u,ops[k]? = some u→listed.getD k true=true→∀ e∈u.after,Region.binds .any e=true→listed.getD e.on false=true
 old:∀ t,(∀ (k:Nat) u,ops[k]? = some u→listed.getD k true=true→u.dst≠some t)→a.tmps.getD t undef=a0.tmps.getD t undef
 new:∀ (k:Nat) u d s,ops[k]? = some u→listed.getD k true=true→u.dst=some d→specs[k]? = some s→Spec.holds s (valOf ops a) (a.tmps.getD d undef) w
 chain:∃ k,k≤C.length∧(∀ m c,C[m]? = some c→(listed.getD c true=true↔m<k))∧F ((C.take k).map (valOf ops a)) w
structure Each (P:Program) (ops:Array Oper) (R:World→World→Prop) (C:List Nat) (F:List Value→World→Prop) (w0:World) (Q:Exit→Act→World→Prop) (a0:Act) (D:List (List Nat)) (specs:List Spec):Prop where
 len:specs.length=ops.size
 keeps:∀ s∈specs,Spec.keeps R s
 none:∀ (i:Nat) (o:Oper) s,ops[i]? = some o→specs[i]? = some s→o.dst=none→s = .inl undef
 one:∀ (i:Nat) o js s,ops[i]? = some o→D[i]? = some js→specs[i]? = some s→One P ops R C F w0 a0 i o js s specs
 fin:∀ w,R w0 w→Fin Q C F w ops.toList specs [] a0
theorem depsOf_congr (xs ys:List Spec) (js:List Nat)(h:∀ j∈js,xs[j]? = ys[j]?):depsOf ops xs js=depsOf ops ys js:=by
 unfold depsOf;induction js with
 | nil=>rfl
 | cons j js ih=>
  have h0:=h j (List.mem_cons_self ..)
  simp only[List.filterMap_cons,h0]
  rw[ih fun i hi=>h i (List.mem_cons_of_mem _ hi)]
theorem chained_get (C:List Nat) (vs:List Value) (xs:List Spec) (j:Nat):(chained C vs xs)[j]? = (xs[j]?).map fun s=>match C.idxOf? j with | some m=>.inl (vs.getD m undef) | none=>s:=by
 unfold chained;rw[List.getElem?_mapIdx]
theorem one_more {i:Nat}{o:Oper}{js:List Nat}{s:Spec}{specs more:List Spec}(hj:∀ j∈js,j<specs.length)(h:One P ops R C F w0 a0 i o js s specs):One P ops R C F w0 a0 i o js s (specs++more):=by
 have h1:depsOf ops (specs++more) js=depsOf ops specs js:=depsOf_congr _ _ _ fun j hm=>by rw[List.getElem?_append_left (hj j hm)]
 have h2:∀ vs,depsOf ops (chained C vs (specs++more)) js=depsOf ops (chained C vs specs) js:=fun vs=>depsOf_congr _ _ _ fun j hm=>by
  rw[chained_get,chained_get,List.getElem?_append_left (hj j hm)]
 rcases h with h | h | ⟨m,h3,h4,h5⟩
 ·exact .inl ⟨h.1,by rw[h1];exact h.2.1,h.2.2⟩
 ·exact .inr (.inl h)
 ·exact .inr (.inr ⟨m,h3,h4,fun w hw vs hv hF N hN=>by rw[h2];exact h5 w hw vs hv hF N hN⟩)
theorem each_of_walk (hok:Ok ops a0.tmps.size D):∀ (os:List Oper) (D':List (List Nat)) (specs:List Spec),ops.toList.drop specs.length=os→D.drop specs.length=D'→specs.length≤ops.size→
  (∀ s∈specs,Spec.keeps R s)→
  (∀ (i:Nat) (o:Oper) s,ops[i]? = some o→specs[i]? = some s→o.dst=none→s = .inl undef)→
  (∀ (i:Nat) o js s,ops[i]? = some o→D[i]? = some js→specs[i]? = some s→One P ops R C F w0 a0 i o js s specs)→
  Walk P ops R C F w0 Q a0 D' os specs→∃ specs',Each P ops R C F w0 Q a0 D specs':=by
 intro os;induction os with
 | nil=>
  intro D' specs hos hD hle hk h0 h1 hw;have hl:specs.length=ops.size:=by
   have:=congrArg List.length hos
   simp at this
   omega
  refine⟨specs,hl,hk,h0,h1,?_⟩
  cases D'<;>exact hw
 | cons o os ih=>
  intro D' specs hos hD hle hk h0 h1 hw;cases D' with
  | nil=>exact hw.elim
  | cons js D'=>
   obtain⟨s,⟨hs,hnone⟩,hone,hrest⟩:=hw
   have hlt:specs.length<ops.size:=by
    have:=congrArg List.length hos
    simp at this
    omega
   have hoi:ops[specs.length]? = some o:=by
    have:=congrArg (·[0]?) hos
    simpa using this
   have hji:D[specs.length]? = some js:=by
    have:=congrArg (·[0]?) hD
    simpa using this
   have back:∀ i x,(specs++[s])[i]? = some x→i<specs.length∧specs[i]? = some x∨i=specs.length∧x=s:=by
    intro i x hx;by_cases hil:i<specs.length
    ·rw[List.getElem?_append_left hil] at hx
     exact .inl ⟨hil,hx⟩
    ·have hie:i=specs.length:=by
      have:=(List.getElem?_eq_some_iff.1 hx).1
      simp at this
      omega
     subst hie;simp at hx
     exact .inr ⟨rfl,hx.symm⟩
   refine ih D' (specs++[s]) ?_ ?_ (by simp;omega) ?_ ?_ ?_ hrest
   ·have:=congrArg List.tail hos
    simpa [List.tail_drop] using this
   ·have:=congrArg List.tail hD
    simpa [List.tail_drop] using this
   ·intro x hx;rcases List.mem_append.1 hx with hx | hx
    ·exact hk x hx
    ·simp only[List.mem_singleton] at hx;subst hx;exact hs
   ·intro i u x hi hx hd;rcases back i x hx with ⟨hil,hx⟩ | ⟨rfl,rfl⟩
    ·exact h0 i u x hi hx hd
    ·rw[hoi] at hi;obtain rfl:=Option.some.inj hi
     exact hnone hd
   ·intro i u ks x hi hj hx;have hdep:∀ j∈ks,j<i:=fun j hm=>(hok.deps i u ks hi hj j hm).1
    rcases back i x hx with ⟨hil,hx⟩ | ⟨rfl,rfl⟩
    ·exact one_more (fun j hm=>by have:=hdep j hm;omega) (h1 i u ks x hi hj hx)
    ·rw[hoi] at hi;rw[hji] at hj;obtain rfl:=Option.some.inj hi
     obtain rfl:=Option.some.inj hj
     exact one_more hdep hone
theorem fin_at {w:World} (a:Act):∀ (os:List Oper) (ss:List Spec) (acc:List Value) (b:Act),Fin Q C F w os ss acc b→os.length=ss.length→
  (∀ j,j<acc.length→acc.getD j undef=valOf ops a j)→
  ops.toList.drop acc.length=os→
  (∀ j,j<ops.size→(ops[j]?).bind (·.dst)=none→valOf ops a j=undef)→
  (∀ (i:Nat) o d s,os[i]? = some o→o.dst=some d→ss[i]? = some s→Spec.holds s (valOf ops a) (a.tmps.getD d undef) w∧∀ j∈s.looks,j<acc.length+i)→
  (∀ (i:Nat) o s,os[i]? = some o→o.dst=none→ss[i]? = some s→s = .inl undef)→
  (∀ o∈os,∀ d,o.dst=some d→d<b.tmps.size)→
  a.tmps.size=b.tmps.size→a.defers=b.defers→(∀ t,(∀ o∈os,o.dst≠some t)→a.tmps.getD t undef=b.tmps.getD t undef)→
  (∀ c∈C,c<ops.size)→F (C.map (valOf ops a)) w→Q .normal a w
 | [],ss,acc,b,h,_,hacc,hdrop,_,_,_,_,hz,hd,hold,hC,hF=>by
  have:a=b:=by
   obtain⟨ta,da⟩:=a
   obtain⟨tb,db⟩:=b
   simp only at hz hd hold
   subst hd;congr 1
   apply Array.ext hz
   intro i h1 h2;have:=hold i (by simp)
   simpa [Array.getD_eq_getD_getElem?,Array.getElem?_eq_getElem h1,Array.getElem?_eq_getElem h2] using this
  subst this;have hlen:ops.size≤acc.length:=by
   have:=congrArg List.length hdrop
   simp at this
   omega
  have hmap:C.map (fun j=>acc.getD j undef)=C.map (valOf ops a):=List.map_congr_left fun c hc=>hacc c (by have:=hC c hc;omega)
  have h':F (C.map fun j=>acc.getD j undef) w→Q .normal a w:=by cases ss<;>exact h
  exact h' (by rw[hmap];exact hF)
 | o::os,[],acc,b,h,hl,_,_,_,_,_,_,_,_,_,_,_=>by simp at hl
 | o::os,s::ss,acc,b,h,hl,hacc,hdrop,hund,hnew,hnone,hsz,hz,hd,hold,hC,hF=>by
  have hoi:ops[acc.length]? = some o:=by
   have:=congrArg (·[0]?) hdrop
   simpa using this
  have hval:valOf ops a acc.length=match o.dst with | some d=>a.tmps.getD d undef | none=>undef:=by
   unfold valOf;rw[hoi];rfl
  have step:Fin Q C F w os ss (acc++[valOf ops a acc.length]) (b.put o.dst (valOf ops a acc.length))→Q .normal a w:=by
   intro hf;refine fin_at a os ss _ _ hf (by simpa using hl) ?_ ?_ hund (fun i x d y hi hx hy=>?_)
    (fun i x y hi hx hy=>hnone (i+1) x y (by simpa using hi) hx (by simpa using hy)) (fun x hx d hxd=>by rw[put_size];exact hsz x (List.mem_cons_of_mem _ hx) d hxd) (by rw[put_size];exact hz) (by rw[put_def];exact hd) ?_ hC hF
   ·intro j hj;simp only[List.length_append,List.length_cons,List.length_nil] at hj
    by_cases hja:j<acc.length
    ·rw[←hacc j hja]
     simp only[List.getD_eq_getElem?_getD,List.getElem?_append_left hja]
    ·have:j=acc.length:=by omega
     subst this;simp[List.getD_eq_getElem?_getD]
   ·have:=congrArg List.tail hdrop
    simpa [List.tail_drop] using this
   ·have h1:=hnew (i+1) x d y (by simpa using hi) hx (by simpa using hy)
    exact⟨h1.1,fun j hj=>by have:=h1.2 j hj;simp;omega⟩
   ·intro t ht;cases hod:o.dst with
    | none=>
     have e0:∀ v,b.put none v=b:=fun _=>rfl
     rw[e0];exact hold t (fun x hx=>by
      rcases List.mem_cons.1 hx with rfl | hx
      ·rw[hod];simp
      ·exact ht x hx)
    | some d=>
     rw[put_get _ _ _ _ (hsz o (List.mem_cons_self ..) d hod),hval,hod]
     by_cases e:t=d
     ·subst e;rw[if_pos rfl]
     ·rw[if_neg e]
      exact hold t (fun x hx=>by
       rcases List.mem_cons.1 hx with rfl | hx
       ·rw[hod];simp only[ne_eq,Option.some.injEq];exact fun h=>e h.symm
       ·exact ht x hx)
  cases hod:o.dst with
  | none=>
   have hs:=hnone 0 o s rfl hod rfl
   subst hs;have hv:valOf ops a acc.length=undef:=by rw[hval,hod]
   rw[hv] at step;exact step (by simpa [Fin] using h)
  | some d=>
   have hv:valOf ops a acc.length=a.tmps.getD d undef:=by rw[hval,hod]
   obtain⟨h1,h2⟩:=hnew 0 o d s rfl hod rfl
   rw[←hv] at h1;rcases s with c | φ | j
   ·have hvc:valOf ops a acc.length=c:=h1
    rw[hvc] at step;exact step (by simpa [Fin] using h)
   ·simp only[Fin] at h
    exact step (h _ h1)
   ·have hvc:valOf ops a acc.length=valOf ops a j:=h1
    have hj:j<acc.length:=by have:=h2 j (by simp[Spec.looks]);omega
    simp only[Fin] at h
    rw[hvc] at step;exact step (by rw[←hacc j hj];exact h)
theorem ready_spec {listed:Array Bool}{i:Nat}(h:i∈Region.ready .any ops listed):∃ o,ops[i]? = some o∧listed.getD i true=false∧∀ e∈o.after,Region.binds .any e=true→listed.getD e.on false=true:=by
 unfold Region.ready at h;simp only[List.mem_filter,List.mem_range,Bool.and_eq_true,Bool.not_eq_true'] at h
 obtain⟨hi,hl,ha⟩:=h
 refine⟨ops[i],Array.getElem?_eq_getElem hi,hl,fun e he hb=>?_⟩
 rw[Array.getElem?_eq_getElem hi] at ha
 simp only[Option.map_some,Option.getD_some,Array.all_eq_true_iff_forall_mem,Bool.or_eq_true,Bool.not_eq_true'] at ha
 rcases ha e he with h1 | h1
 ·rw[hb] at h1;cases h1
 ·exact h1
theorem all_listed {n:Nat}(hok:Ok ops n D) {listed:Array Bool}(hlen:listed.size=ops.size)(h:Region.ready .any ops listed=[]):∀ i,i<ops.size→listed.getD i true=true:=by
 intro i;induction i using Nat.strongRecOn with
 | ind i ih=>
  intro hi;cases hl:listed.getD i true with
  | true=>rfl
  | false=>
   exfalso
   have hm:i∈Region.ready .any ops listed:=by
    unfold Region.ready;simp only[List.mem_filter,List.mem_range,Bool.and_eq_true,Bool.not_eq_true']
    refine⟨hi,hl,?_⟩
    rw[Array.getElem?_eq_getElem hi]
    simp only[Option.map_some,Option.getD_some,Array.all_eq_true_iff_forall_mem,Bool.or_eq_true,Bool.not_eq_true']
    intro e he;cases hb:Region.binds .any e with
    | false=>exact .inl rfl
    | true=>
     have hlt:=hok.lower i _ (Array.getElem?_eq_getElem hi) e he hb
     have:=ih e.on hlt (by omega)
     refine .inr ?_
     rw[Array.getD_eq_getD_getElem?,Array.getElem?_eq_getElem (by omega)] at this ⊢
     exact this
   rw[h] at hm;cases hm
theorem gives_mono {N N':Value→World→Prop}{r:Result Next}(h:∀ v w,N v w→N' v w)(hg:gives P N r):gives P N' r:=by
 cases r with
 | ok n w'=>
  cases n<;>simp only[gives] at hg ⊢
  case value v=>exact h _ _ hg
  case skip=>exact h _ _ hg
  case enter f args=>exact hg.mono fun e w'' ⟨v,he,hk⟩=>⟨v,he,h _ _ hk⟩
 | halt x w'=>simp only[gives] at hg
theorem looks_of_one {i:Nat}{o:Oper}{js:List Nat}{s:Spec}{specs:List Spec}(h:One P ops R C F w0 a0 i o js s specs):∀ j∈s.looks,j∈js:=by
 intro j hj;rcases h with ⟨_,_,h⟩ | ⟨_,j',hj',_,rfl⟩ | ⟨_,_,h,_⟩
 ·rw[h] at hj;cases hj
 ·simp[Spec.looks] at hj;subst hj;exact hj'
 ·rw[h] at hj;cases hj
theorem idx_get {l:List Nat}{x m:Nat}(h:l.idxOf? x=some m):l[m]? = some x:=by
 have:=List.idxOf?_eq_some_iff.1 h
 obtain⟨h1,h2,_⟩:=this
 rw[List.getElem?_eq_getElem h1]
 simpa using h2
structure Chained (ops:Array Oper) (C:List Nat):Prop where
 lt:∀ c∈C,c<ops.size
 next:∀ (m c d:Nat) (o:Oper),C[m]? = some c→C[m+1]? = some d→ops[d]? = some o→∃ e∈o.after,Region.binds .any e=true∧e.on=c
 inj:∀ (m k c:Nat),C[m]? = some c→C[k]? = some c→m=k
def chainB (ops:Array Oper) (C:List Nat):Bool:=
 decide C.Nodup&&C.all (fun c=>(ops[c]?).isSome) &&
 (List.range C.length).all fun m=>match C[m]?,C[m+1]? with
  | some c,some d=>(match ops[d]? with | some o=>o.after.any (fun e=>Region.binds .any e&&e.on==c) | none=>false)
  | _,_=>true
theorem Chained.of (h:chainB ops C=true):Chained ops C:=by
 unfold chainB at h;simp only[Bool.and_eq_true,decide_eq_true_eq,List.all_eq_true,List.mem_range] at h
 obtain⟨⟨hn,hd⟩,hx⟩:=h
 refine⟨fun c hc=>?_,fun m c d o hm hm1 ho=>?_,fun m k c hm hk=>?_⟩
 ·have:=hd c hc
  cases ho:ops[c]? with
  | none=>rw[ho] at this;cases this
  | some o=>exact lt_size ho
 ·have:=hx m (List.getElem?_eq_some_iff.1 hm).1
  simp only[hm,hm1,ho] at this
  obtain⟨e,he,h4⟩:=Array.any_eq_true'.1 this
  simp only[Bool.and_eq_true,beq_iff_eq] at h4
  exact⟨e,he,h4.1,h4.2⟩
 ·obtain⟨h1,h2⟩:=List.getElem?_eq_some_iff.1 hm
  obtain⟨h3,h4⟩:=List.getElem?_eq_some_iff.1 hk
  have hp:=List.pairwise_iff_getElem.1 hn
  rcases Nat.lt_trichotomy m k with h | h | h
  ·exact absurd (h2.trans h4.symm) (hp m k h1 h3 h)
  ·exact h
  ·exact absurd (h4.trans h2.symm) (hp k m h3 h1 h)
theorem any_of_each {specs:List Spec}(hrefl:∀ a,R a a)(htr:∀ a b c,R a b→R b c→R a c)(hok:Ok ops a0.tmps.size D)(hC:Chained ops C)(hE:Each P ops R C F w0 Q a0 D specs) :
  ∀ (fuel:Nat) (listed:Array Bool) (a:Act) (w:World),Inv ops R C F w0 a0 specs listed a w→(∀ i,i<ops.size→listed.getD i true=false→fuel≠0)→
   (listed.toList.filter (· == false)).length≤fuel→wpAny P .any ops Q fuel listed a w:=by
 have stop:∀ (listed:Array Bool) (a:Act) (w:World),Inv ops R C F w0 a0 specs listed a w→Region.ready .any ops listed=[]→Q .normal a w:=by
  intro listed a w hI hr;have hall:=all_listed hok hI.len hr
  have hund:∀ j,j<ops.size→(ops[j]?).bind (·.dst)=none→valOf ops a j=undef:=by
   intro j _ h;unfold valOf;rw[h]
  obtain⟨k,hk,hch,hF⟩:=hI.chain
  have hkl:k=C.length:=by
   rcases Nat.lt_or_ge k C.length with h | h
   ·have h1:C[k]? = some C[k]:=List.getElem?_eq_getElem h
    have h2:=(hch k _ h1).1 (hall _ (hC.lt _ (List.getElem_mem h)))
    omega
   ·omega
  rw[hkl,List.take_length] at hF;refine fin_at a ops.toList specs [] a0 (hE.fin w hI.rel) (by rw[Array.length_toList];exact hE.len.symm) (by simp) (by simp) hund ?_ ?_ ?_ hI.size hI.defers ?_ hC.lt hF
  ·intro i o d s hi hd hs;have hi':ops[i]? = some o:=by simpa using hi
   refine⟨hI.new i o d s hi' (hall i (lt_size hi')) hd hs,fun j hj=>?_⟩
   obtain⟨js,hjs⟩:∃ js,D[i]? = some js:=⟨_,List.getElem?_eq_getElem (by have:=hok.len;have:=lt_size hi';omega)⟩
   have h1:=looks_of_one (hE.one i o js s hi' hjs hs) j hj
   have:=(hok.deps i o js hi' hjs j h1).1
   simpa using this
  ·intro i o s hi hd hs;have hi':ops[i]? = some o:=by simpa using hi
   have h1:=hE.none i o s hi' hs hd
   exact h1
  ·intro o ho d hd;obtain⟨i,hi,rfl⟩:=List.getElem_of_mem ho
   have hi2:i<ops.size:=by simpa using hi
   exact hok.size i _ d (Array.getElem?_eq_getElem hi2) hd
  ·intro t ht;refine hI.old t fun k u hk _=>ht u ?_
   exact Array.mem_toList_iff.2 (Array.mem_of_getElem? hk)
 intro fuel;induction fuel with
 | zero=>
  intro listed a w hI hf _;have hr:Region.ready .any ops listed=[]:=by
   cases h:Region.ready .any ops listed with
   | nil=>rfl
   | cons i l=>
    obtain⟨o,ho,hl,_⟩:=ready_spec (show i∈Region.ready .any ops listed by rw[h];exact List.mem_cons_self ..)
    exact absurd rfl (hf i (lt_size ho) hl)
  exact⟨hr,stop listed a w hI hr⟩
 | succ fuel ih=>
  intro listed a w hI _ hcount;refine⟨stop listed a w hI,fun i hi=>?_⟩
  obtain⟨o,ho,hli,hafter⟩:=ready_spec hi
  have hilt:=lt_size ho
  have hls:i<listed.size:=by rw[hI.len];exact hilt
  obtain⟨js,hjs⟩:∃ js,D[i]? = some js:=⟨_,List.getElem?_eq_getElem (by have:=hok.len;omega)⟩
  obtain⟨s,hs⟩:∃ s,specs[i]? = some s:=⟨_,List.getElem?_eq_getElem (by have:=hE.len;omega)⟩
  have getset:∀ (k:Nat) (b:Bool),(listed.setIfInBounds i true).getD k b=if k=i then true else listed.getD k b:=by
   intro k b;simp only[Array.getD_eq_getD_getElem?,Array.getElem?_setIfInBounds]
   by_cases e:i=k
   ·subst e;simp[hls]
   ·rw[if_neg e,if_neg (Ne.symm e)]
  have hsame:∀ (k:Nat),k<ops.size→listed.getD k false=true→listed.getD k true=true:=by
   intro k hk h;rw[Array.getD_eq_getD_getElem?,Array.getElem?_eq_getElem (by rw[hI.len];exact hk)] at h ⊢
   exact h
  have hvof:∀ v j,j≠i→j<ops.size→valOf ops (a.put o.dst v) j=valOf ops a j:=by
   intro v j hji hj;unfold valOf;have hoj:ops[j]? = some ops[j]:=Array.getElem?_eq_getElem hj
   rw[hoj];simp only[Option.bind_some]
   cases hd:ops[j].dst with
   | none=>rfl
   | some d=>
    simp only
    cases hod:o.dst with
    | none=>rfl
    | some d2=>
     rw[put_get _ _ _ _ (by rw[hI.size];exact hok.size i o d2 ho hod)]
     rw[if_neg (fun e=>by subst e;exact hji (hok.apart i j o _ d ho hoj hod hd))]
  have hvat:∀ v d,o.dst=some d→valOf ops (a.put o.dst v) i=v:=by
   intro v d hd;unfold valOf;rw[ho];simp only[Option.bind_some,hd]
   rw[put_get _ _ _ _ (by rw[hI.size];exact hok.size i o d ho hd),if_pos rfl]
  have hN:∀ v w',Spec.holds s (valOf ops a) v w'→R w w'→(∃ k,k≤C.length∧(∀ m c,C[m]? = some c→((listed.setIfInBounds i true).getD c true=true↔m<k))∧F ((C.take k).map (valOf ops (a.put o.dst v))) w')→
    wpAny P .any ops Q fuel (listed.setIfInBounds i true) (a.put o.dst v) w':=by
   intro v w' hv hr hchain;have hI':Inv ops R C F w0 a0 specs (listed.setIfInBounds i true) (a.put o.dst v) w':=by
    refine⟨by simpa using hI.len,htr _ _ _ hI.rel hr,by rw[put_size];exact hI.size,by rw[put_def];exact hI.defers,?_,?_,?_,hchain⟩
    ·intro k u hk hlk e he hb;rw[getset] at hlk ⊢
     by_cases eo:e.on=i
     ·rw[if_pos eo]
     ·rw[if_neg eo]
      by_cases ek:k=i
      ·subst ek;rw[ho] at hk;obtain rfl:=Option.some.inj hk
       exact hafter e he hb
      ·rw[if_neg ek] at hlk
       exact hI.down k u hk hlk e he hb
    ·intro t ht;have hti:o.dst≠some t:=ht i o ho (by rw[getset,if_pos rfl])
     cases hd:o.dst with
     | none=>exact hI.old t fun k u hk hlk=>ht k u hk (by rw[getset];split;exact rfl;exact hlk)
     | some d=>
      rw[put_get _ _ _ _ (by rw[hI.size];exact hok.size i o d ho hd),if_neg (fun e=>hti (by rw[hd,e]))]
      exact hI.old t fun k u hk hlk=>ht k u hk (by rw[getset];split;exact rfl;exact hlk)
    ·intro k u d x hk hlk hd hx;obtain⟨ks,hks⟩:∃ ks,D[k]? = some ks:=⟨_,List.getElem?_eq_getElem (by have:=hok.len;have:=lt_size hk;omega)⟩
     have hlooks:∀ j∈x.looks,valOf ops (a.put o.dst v) j=valOf ops a j:=by
      intro j hj;have h1:=looks_of_one (hE.one k u ks x hk hks hx) j hj
      obtain⟨h2,e,he,hb,h3⟩:=hok.deps k u ks hk hks j h1
      refine hvof v j (fun e'=>?_) (by have:=lt_size hk;omega)
      subst e';by_cases ek:k=j
      ·omega
      ·rw[getset,if_neg ek] at hlk
       have h4:=hI.down k u hk hlk e he hb
       rw[h3] at h4;rw[hsame j hilt h4] at hli
       cases hli
     by_cases ek:k=i
     ·subst ek;rw[ho] at hk;obtain rfl:=Option.some.inj hk
      rw[hs] at hx;obtain rfl:=Option.some.inj hx
      rw[hd,put_get _ _ _ _ (by rw[hI.size];exact hok.size k _ d ho hd),if_pos rfl,←hd]
      exact Spec.same (fun j hj=>(hlooks j hj).symm) hv
     ·rw[getset,if_neg ek] at hlk
      have h1:=Spec.same (fun j hj=>(hlooks j hj).symm) (Spec.kept (hE.keeps x (List.mem_of_getElem? hx)) (hI.new k u d x hk hlk hd hx) hr)
      cases hod:o.dst with
      | none=>rw[hod] at h1;exact h1
      | some d2=>
       rw[put_get _ _ _ _ (by rw[hI.size];exact hok.size i o d2 ho hod)]
       rw[if_neg (fun e=>by subst e;exact ek (hok.apart i k o u d ho hk hod hd))]
       rw[hod] at h1;exact h1
   have hc2:((listed.setIfInBounds i true).toList.filter (· == false)).length≤fuel:=by
    have hx:listed[i]=false:=by
     rw[Array.getD_eq_getD_getElem?,Array.getElem?_eq_getElem hls] at hli
     exact hli
    have e1:listed.toList=listed.toList.take i++false::listed.toList.drop (i+1):=by
     have h3:listed.toList[i]'(by simpa using hls)=false:=by simpa using hx
     rw[←h3,List.getElem_cons_drop,List.take_append_drop]
    have e2:(listed.setIfInBounds i true).toList=listed.toList.take i++true::listed.toList.drop (i+1):=by
     rw[Array.toList_setIfInBounds,List.set_eq_take_append_cons_drop,if_pos (by simpa using hls)]
    rw[e1] at hcount;rw[e2];simp only[List.filter_append,List.filter_cons,List.length_append] at hcount ⊢
    simp at hcount ⊢
    omega
   refine ih _ _ _ hI' ?_ hc2
   intro k hk hlk hz;subst hz;have:(listed.setIfInBounds i true).toList.filter (· == false)=[]:=List.eq_nil_of_length_eq_zero (by omega)
   have hkz:k<(listed.setIfInBounds i true).size:=by simp[hI.len];exact hk
   rw[Array.getD_eq_getD_getElem?,Array.getElem?_eq_getElem hkz] at hlk
   have hmem:false∈(listed.setIfInBounds i true).toList.filter (· == false):=by
    rw[List.mem_filter];refine⟨?_,by simp⟩
    have h4:(listed.setIfInBounds i true)[k]=false:=hlk
    rw[←h4];exact Array.mem_toList_iff.2 (Array.getElem_mem hkz)
   rw[this] at hmem;cases hmem
  have hdeps:∀ x∈depsOf ops specs js,∃ j u,j∈js∧ops[j]? = some u∧u.dst=some x.1∧specs[j]? = some x.2:=by
   intro x hx;unfold depsOf at hx;rw[List.mem_filterMap] at hx;obtain⟨j,hj,hx⟩:=hx
   cases hu:ops[j]? with
   | none=>simp[hu] at hx
   | some u=>
    cases hd:u.dst with
    | none=>simp[hu,hd] at hx
    | some t=>
     cases hsp:specs[j]? with
     | none=>simp[hu,hd,hsp] at hx
     | some sp=>
      simp[hu,hd,hsp] at hx
      subst hx;exact⟨j,u,hj,hu,hd,hsp⟩
  have hlisted:∀ j∈js,listed.getD j false=true:=by
   intro j hj;obtain⟨_,e,he,hb,rfl⟩:=hok.deps i o js ho hjs j hj
   exact hafter e he hb
  have hdepsC:∀ vs,∀ x∈depsOf ops (chained C vs specs) js,∃ j u,j∈js∧ops[j]? = some u∧u.dst=some x.1∧(chained C vs specs)[j]? = some x.2:=by
   intro vs x hx;unfold depsOf at hx;rw[List.mem_filterMap] at hx;obtain⟨j,hj,hx⟩:=hx
   cases hu:ops[j]? with
   | none=>simp[hu] at hx
   | some u=>
    cases hd:u.dst with
    | none=>simp[hu,hd] at hx
    | some t=>
     cases hsp:(chained C vs specs)[j]? with
     | none=>simp[hu,hd,hsp] at hx
     | some sp=>
      simp[hu,hd,hsp] at hx
      subst hx;exact⟨j,u,hj,hu,hd,hsp⟩
  have finish:∀ (ds:List (Nat×Spec)) (N:Value→World→Prop),ds.map (·.1)=(depsOf ops specs js).map (·.1)→Ob P ops o N w [] (lay a ds a0)→
    (∀ v w',N v w'→wpAny P .any ops Q fuel (listed.setIfInBounds i true) (a.put o.dst v) w')→wpOp P ops Q i (wpAny P .any ops Q fuel (listed.setIfInBounds i true)) a w:=by
   intro ds N hds hat hNN;have hlay:=lay_get a ds a0 (fun x hx=>by
    have:x.1∈ds.map (·.1):=List.mem_map.2 ⟨x,hx,rfl⟩
    rw[hds] at this;obtain⟨y,hy,hxy⟩:=List.mem_map.1 this
    obtain⟨j,u,hj,hu,hd,hsp⟩:=hdeps y hy
    rw[←hxy];exact hok.size j u y.1 hu hd)
   have hrun:=same_run (ops:=ops) (o:=o) (a:=a) (b:=lay a ds a0) (fun cs c=>hok.sel i o cs c ho) (by rw[hlay.1,hI.size]) (fun t ht=>by
    rw[hlay.2,hds];by_cases hm:t∈(depsOf ops specs js).map (·.1)
    ·rw[if_pos hm]
    ·rw[if_neg hm]
     refine hI.old t fun k u hk hlk hd=>?_
     rcases hok.reads i k o u js t ho hjs hk hd ht with h1 | ⟨e,he,hb,h2⟩
     ·apply hm
      obtain⟨sp,hsp⟩:∃ sp,specs[k]? = some sp:=⟨_,List.getElem?_eq_getElem (by have:=hE.len;have:=lt_size hk;omega)⟩
      refine List.mem_map.2 ⟨(t,sp),?_,rfl⟩
      unfold depsOf;rw[List.mem_filterMap];exact⟨k,h1,by simp[hk,hd,hsp]⟩
     ·have:=hI.down k u hk hlk e he hb
      rw[h2] at this;rw[hsame i hilt this] at hli
      cases hli)
   unfold wpOp;simp only[ho]
   simp only[Ob] at hat
   rw[←hrun.1,←hrun.2] at hat;split
   ·rename_i hw
    rw[if_pos hw] at hat
    exact .inl (upon_of_gives (gives_mono hNN hat))
   ·rename_i hw
    rw[if_neg hw] at hat
    exact hNN _ _ hat
  obtain⟨k,hk,hch,hF⟩:=hI.chain
  have hCn:∀ c,c∈C→c<ops.size:=hC.lt
  have outside:i ∉ C→∀ v w',F ((C.take k).map (valOf ops a)) w'→∃ k,k≤C.length∧(∀ m c,C[m]? = some c→((listed.setIfInBounds i true).getD c true=true↔m<k))∧F ((C.take k).map (valOf ops (a.put o.dst v))) w':=by
   intro hni v w' hF';refine⟨k,hk,fun m c hm=>?_,?_⟩
   ·rw[getset,if_neg (fun e=>hni (by rw[←e];exact List.mem_of_getElem? hm))]
    exact hch m c hm
   ·have:(C.take k).map (valOf ops (a.put o.dst v))=(C.take k).map (valOf ops a):=List.map_congr_left fun c hc=>by
     have hcC:=List.mem_of_mem_take hc
     exact hvof v c (fun e=>hni (by rw[←e];exact hcC)) (hCn c hcC)
    rw[this];exact hF'
  rcases hE.one i o js s ho hjs hs with ⟨hni,hone,hlk⟩ | ⟨hni,j,hj,hcp,rfl⟩ | ⟨m,hmC,hlk,hone⟩
  ·have hat:=ob_at (valOf ops a) a (depsOf ops specs js) a0 (hone w hI.rel (fun v w'=>Spec.holds s (fun _=>undef) v w'∧R w w'∧∀ vs,F vs w→F vs w') fun v w' h1 h2 h3=>⟨h1,h2,h3⟩) (fun x hx=>by
    obtain⟨j,u,hj,hu,hd,hsp⟩:=hdeps x hx
    exact hI.new j u x.1 x.2 hu (hsame j (lt_size hu) (hlisted j hj)) hd hsp)
   exact finish _ _ rfl hat fun v w' ⟨h1,h2,h3⟩=>hN v w' (Spec.same (fun j hj=>by rw[hlk] at hj;cases hj) h1) h2 (outside hni v w' (h3 _ hF))
  ·obtain⟨hg,t,hop,hdst⟩:=hcp
   have hju:j<ops.size:=by
    have:=(hok.deps i o js ho hjs j hj).1
    omega
   have hv:valOf ops a j=a.tmps.getD t undef:=by
    unfold valOf;rw[hdst]
   have hgive:∀ N:Value→World→Prop,N (valOf ops a j) w→gives P N ((execOp a.eval o).run P w):=by
    intro N hNv;rcases hop with h | h<;>(unfold execOp;simp only[h,Act.eval,Sem.run_pure,gives];rw[←hv];exact hNv)
   unfold wpOp;simp only[ho]
   rw[if_pos (by unfold Region.wanted;rw[hg])]
   refine .inl (upon_of_gives (hgive _ ?_))
   exact hN _ w rfl (hrefl w) (outside hni _ w hF)
  ·have him:k=m:=by
    have h1:¬m<k:=fun h=>by
     have:=(hch m i hmC).2 h
     rw[this] at hli;cases hli
    rcases Nat.lt_or_ge k m with h | h
    ·exfalso
     have hmpos:0<m:=by omega
     have hml:m<C.length:=(List.getElem?_eq_some_iff.1 hmC).1
     have hp:C[m-1]? = some C[m-1]:=List.getElem?_eq_getElem (by omega)
     obtain⟨e,he,hb,hon⟩:=hC.next (m-1) C[m-1] i o hp (by rw[show m-1+1=m by omega];exact hmC) ho
     have h2:=hsame _ (hCn _ (List.mem_of_getElem? hp)) (by rw[←hon];exact hafter e he hb)
     have:=(hch (m-1) _ hp).1 h2
     omega
    ·omega
   subst him;have hvs:((C.take k).map (valOf ops a)).length=k:=by simp;omega
   have hat:=ob_at (valOf ops a) a (depsOf ops (chained C ((C.take k).map (valOf ops a)) specs) js) a0
    (hone w hI.rel _ hvs hF (fun v w'=>Spec.holds s (fun _=>undef) v w'∧R w w'∧F ((C.take k).map (valOf ops a)++[valIn o v]) w') fun v w' h1 h2 h3=>⟨h1,h2,h3⟩) (fun x hx=>by
    obtain⟨j,u,hj,hu,hd,hsp⟩:=hdepsC _ x hx
    rw[chained_get] at hsp;cases hsj:specs[j]? with
    | none=>rw[hsj] at hsp;cases hsp
    | some sj=>
     rw[hsj] at hsp;simp only[Option.map_some,Option.some.injEq] at hsp
     have hjl:=hsame j (lt_size hu) (hlisted j hj)
     cases hix:C.idxOf? j with
     | none=>
      rw[hix] at hsp;simp only at hsp
      subst hsp;exact hI.new j u x.1 _ hu hjl hd hsj
     | some mj=>
      rw[hix] at hsp;simp only at hsp
      rw[←hsp];have hCj:=idx_get hix
      have hlt:mj<k:=(hch mj j hCj).1 hjl
      show a.tmps.getD x.1 undef=_
      have:((C.take k).map (valOf ops a)).getD mj undef=valOf ops a j:=by
       rw[List.getD_eq_getElem?_getD,List.getElem?_map,List.getElem?_take,if_pos hlt,hCj]
       rfl
      rw[this];unfold valOf;rw[hu];simp only[Option.bind_some,hd])
   have hsame2:(depsOf ops (chained C ((C.take k).map (valOf ops a)) specs) js).map (·.1)=(depsOf ops specs js).map (·.1):=by
    unfold depsOf;rw[List.map_filterMap,List.map_filterMap];congr 1
    funext j
    rw[chained_get];cases (ops[j]?).bind (·.dst)<;>cases specs[j]? <;> rfl
   refine finish _ _ hsame2 hat fun v w' ⟨h1,h2,h3⟩=>hN v w' (Spec.same (fun j hj=>by rw[hlk] at hj;cases hj) h1) h2 ?_
   have hvin:valOf ops (a.put o.dst v) i=valIn o v:=by
    unfold valIn;cases hod:o.dst with
    | some d=>
     have:=hvat v d hod
     rw[hod] at this;exact this
    | none=>
     unfold valOf;rw[ho];simp only[Option.bind_some,hod]
   have hkl:k<C.length:=(List.getElem?_eq_some_iff.1 hmC).1
   refine⟨k+1,by omega,fun m' c hm'=>?_,?_⟩
   ·rw[getset];by_cases e:c=i
    ·subst e;rw[if_pos rfl]
     have:=hC.inj m' k c hm' hmC
     simp;omega
    ·rw[if_neg e,hch m' c hm']
     constructor
     ·omega
     ·intro h;rcases Nat.lt_or_ge m' k with h' | h'
      ·exact h'
      ·exfalso
       have:m'=k:=by omega
       subst this;rw[hmC] at hm';exact e (Option.some.inj hm').symm
   ·rw[List.take_succ_eq_append_getElem hkl,List.map_append,List.map_cons,List.map_nil]
    have hCk:C[k]=i:=by
     have:=List.getElem?_eq_getElem hkl
     rw[hmC] at this;exact (Option.some.inj this).symm
    have h5:(C.take k).map (valOf ops (a.put o.dst v))=(C.take k).map (valOf ops a):=List.map_congr_left fun c hc=>by
     refine hvof v c (fun e=>?_) (hCn c (List.mem_of_mem_take hc))
     subst e;obtain⟨q,hq,hqc⟩:=List.getElem_of_mem hc
     rw[List.length_take] at hq;rw[List.getElem_take] at hqc;have h6:C[q]? = some c:=by rw[List.getElem?_eq_getElem (by omega),hqc]
     have:=hC.inj q k c h6 hmC
     omega
    rw[h5,hCk,hvin];exact h3
theorem wp_region_chain {id:Nat} (l:List Oper) (R:World→World→Prop) (C:List Nat) (F:List Value→World→Prop)(hm:P.follows .mixedOrders=true)(hrefl:∀ a,R a a)(htr:∀ a b c,R a b→R b c→R a c) (D:List (List Nat)) {n:Nat}(hn:a0.tmps.size=n)
  (hok:okB l.toArray n D=true)(hch:chainB l.toArray C=true)(hr0:R w0 { w0 with drawn:=w0.drawn+1 })(hF:F [] { w0 with drawn:=w0.drawn+1 })
  (h:Walk P l.toArray R C F w0 Q a0 D l []):(Code.region id l.toArray true).wp P Q a0 w0:=by
 subst hn;have hok:=Ok.of hok
 have hC:=Chained.of hch
 obtain⟨specs,hE⟩:=each_of_walk hok l D [] (by simp) (by simp) (by simp) (by simp) (by simp) (by simp) h
 refine wp_region_any hm ?_
 have hnone:∀ k,k<l.toArray.size→(Array.replicate l.toArray.size false).getD k true=false:=by
  intro k hk;have hkl:k<l.length:=by simpa using hk
  simp[Array.getD_eq_getD_getElem?,hkl]
 refine any_of_each hrefl htr hok hC hE _ _ _ _ ⟨by simp,hr0,rfl,rfl,?_,fun _ _=>rfl,?_,0,Nat.zero_le _,?_,by simpa using hF⟩ ?_ ?_
 ·intro k u hk hl;rw[hnone k (lt_size hk)] at hl
  cases hl
 ·intro k u d s hk hl;rw[hnone k (lt_size hk)] at hl
  cases hl
 ·intro m c hm;rw[hnone c (hC.lt c (List.mem_of_getElem? hm))]
  simp
 ·intro i hi _ hz;rw[hz] at hi;exact absurd hi (Nat.not_lt_zero _)
 ·rw[Array.toList_replicate];exact Nat.le_trans (List.length_filter_le _ _) (by simp)
theorem Walk.eq {js:List Nat}{E:List (List Nat)}{o:Oper}{os:List Oper}{specs:List Spec}{c:Value}(hd:o.dst.isSome=true)(hi:C.contains specs.length=false)
  (h:∀ w,R w0 w→∀ N:Value→World→Prop,(∀ w',R w w'→(∀ vs,F vs w→F vs w')→N c w')→Ob P ops o N w (depsOf ops specs js) a0)
  (hrest:Walk P ops R C F w0 Q a0 E os (specs++[Sum.inl c])):Walk P ops R C F w0 Q a0 (js::E) (o::os) specs:=
 ⟨.inl c,⟨trivial,fun e=>by rw[e] at hd;cases hd⟩,.inl ⟨by simpa using hi,fun w hw N hN=>h w hw N (fun w' hr hf=>hN c w' rfl hr hf),rfl⟩,hrest⟩
theorem Walk.sat (φ:Value→World→Prop)(hk:∀ v w w',φ v w→R w w'→φ v w') {js:List Nat}{E:List (List Nat)}{o:Oper}{os:List Oper}{specs:List Spec}(hd:o.dst.isSome=true)(hi:C.contains specs.length=false)
  (h:∀ w,R w0 w→∀ N:Value→World→Prop,(∀ v w',φ v w'→R w w'→(∀ vs,F vs w→F vs w')→N v w')→Ob P ops o N w (depsOf ops specs js) a0)
  (hrest:Walk P ops R C F w0 Q a0 E os (specs++[Sum.inr (Sum.inl φ)])):Walk P ops R C F w0 Q a0 (js::E) (o::os) specs:=
 ⟨.inr (.inl φ),⟨hk,fun e=>by rw[e] at hd;cases hd⟩,.inl ⟨by simpa using hi,fun w hw N hN=>h w hw N (fun v w' hv hr hf=>hN v w' hv hr hf),rfl⟩,hrest⟩
theorem Walk.copy (j:Nat) {js:List Nat}{E:List (List Nat)}{o:Oper}{os:List Oper}{specs:List Spec}(hd:o.dst.isSome=true)(hi:C.contains specs.length=false)(hj:js.contains j=true)(hc:copies ops o j)
  (hrest:Walk P ops R C F w0 Q a0 E os (specs++[Sum.inr (Sum.inr j)])):Walk P ops R C F w0 Q a0 (js::E) (o::os) specs:=
 ⟨.inr (.inr j),⟨trivial,fun e=>by rw[e] at hd;cases hd⟩,.inr (.inl ⟨by simpa using hi,j,by simpa using hj,hc,rfl⟩),hrest⟩
theorem Walk.chain (m:Nat) {js:List Nat}{E:List (List Nat)}{o:Oper}{os:List Oper}{specs:List Spec}(hd:o.dst.isSome=true)(hi:C[m]? = some specs.length)
  (h:∀ w,R w0 w→∀ vs:List Value,vs.length=m→F vs w→∀ N:Value→World→Prop,(∀ v w',R w w'→F (vs++[v]) w'→N v w')→Ob P ops o N w (depsOf ops (chained C vs specs) js) a0)
  (hrest:Walk P ops R C F w0 Q a0 E os (specs++[Sum.inr (Sum.inl fun _ _=>True)])):Walk P ops R C F w0 Q a0 (js::E) (o::os) specs:=
 ⟨.inr (.inl fun _ _=>True),⟨fun _ _ _ _ _=>trivial,fun e=>by rw[e] at hd;cases hd⟩,.inr (.inr ⟨m,hi,rfl,fun w hw vs hv hF N hN=>h w hw vs hv hF N (fun v w' hr hf=>hN v w' trivial hr (by rw[show valIn o v=v by unfold valIn;cases ho:o.dst with | some _=>rfl | none=>rw[ho] at hd;cases hd];exact hf))⟩),hrest⟩
theorem Walk.chainS (m:Nat) {js:List Nat}{E:List (List Nat)}{o:Oper}{os:List Oper}{specs:List Spec}(hd:o.dst=none)(hi:C[m]? = some specs.length)
  (h:∀ w,R w0 w→∀ vs:List Value,vs.length=m→F vs w→∀ N:Value→World→Prop,(∀ w',R w w'→F (vs++[undef]) w'→N undef w')→Ob P ops o N w (depsOf ops (chained C vs specs) js) a0)
  (hrest:Walk P ops R C F w0 Q a0 E os (specs++[Sum.inl undef])):Walk P ops R C F w0 Q a0 (js::E) (o::os) specs:=
 ⟨.inl undef,⟨trivial,fun _=>rfl⟩,.inr (.inr ⟨m,hi,rfl,fun w hw vs hv hF N hN=>h w hw vs hv hF N (fun w' hr hf=>hN undef w' rfl hr (by rw[show valIn o undef=undef by unfold valIn;rw[hd]];exact hf))⟩),hrest⟩
end
theorem depB :
  (∀ (ops:Array Oper) specs js,depsOf ops specs js=js.filterMap fun j=>match (ops[j]?).bind (·.dst),specs[j]? with | some t,some s=>some (t,s) | _,_=>none)∧
  (∀ f:Nat→Option (Nat×Spec),List.filterMap f []=[])∧
  (∀ (f:Nat→Option (Nat×Spec)) a l,List.filterMap f (a::l)=match f a with | none=>List.filterMap f l | some b=>b::List.filterMap f l)∧
  (∀ (l:List Oper) (i:Nat),l.toArray[i]? = l[i]?)∧
  (∀ (a:Oper) l,(a::l)[0]? = some a)∧(∀ (a:Oper) l i,(a::l)[i+1]? = l[i]?)∧
  (∀ (a:Spec) l,(a::l)[0]? = some a)∧(∀ (a:Spec) l i,(a::l)[i+1]? = l[i]?)∧
  (∀ (a:Oper) (f:Oper→Option Nat),(some a).bind f=f a)∧
  (∀ l:List Spec,[]++l=l)∧(∀ (a:Spec) l m,(a::l)++m=a::(l++m))∧
  (∀ (P:Program) (ops:Array Oper) (o:Oper) (N:Value→World→Prop) (w:World) a,Ob P ops o N w [] a=if Region.wanted o (yielded ops a.tmps)=true then gives P N ((execOp a.eval o).run P w) else N undef w)∧
  (∀ (P:Program) (ops:Array Oper) (o:Oper) (N:Value→World→Prop) (w:World) t c ds a,Ob P ops o N w ((t,.inl c)::ds) a=Ob P ops o N w ds (a.put (some t) c))∧
  (∀ (P:Program) (ops:Array Oper) (o:Oper) (N:Value→World→Prop) (w:World) t φ ds a,Ob P ops o N w ((t,.inr (.inl φ))::ds) a = ∀ v,φ v w→Ob P ops o N w ds (a.put (some t) v))∧
  (∀ (P:Program) (ops:Array Oper) (o:Oper) (N:Value→World→Prop) (w:World) t j ds a,Ob P ops o N w ((t,.inr (.inr j))::ds) a = ∀ v,Ob P ops o N w ds (a.put (some t) v)):=
 ⟨fun _ _ _=>rfl,fun _=>rfl,fun f a l=>(by rw[List.filterMap_cons];cases f a<;>rfl),fun _ _=>List.getElem?_toArray,fun _ _=>rfl,fun _ _ _=>rfl,fun _ _=>rfl,fun _ _ _=>rfl,fun _ _=>rfl,fun _=>rfl,fun _ _ _=>rfl,fun _ _ _ _ _ _=>rfl,fun _ _ _ _ _ _ _ _ _=>rfl,fun _ _ _ _ _ _ _ _ _=>rfl,fun _ _ _ _ _ _ _ _ _=>rfl⟩
theorem depC :
  (∀ (C:List Nat) (vs:List Value) (xs:List Spec) (j:Nat),(chained C vs xs)[j]? = (xs[j]?).map fun s=>match C.idxOf? j with | some m=>.inl (vs.getD m undef) | none=>s)∧
  (∀ (f:Spec→Spec) a,(some a).map f=some (f a))∧
  (∀ (a:Nat) (l:List Nat),List.idxOf? a l=l.findIdx? (· == a))∧
  (∀ (p:Nat→Bool) (l:List Nat),l.findIdx? p=List.findIdx?.go p l 0)∧
  (∀ (p:Nat→Bool) i,List.findIdx?.go p [] i=none)∧
  (∀ (p:Nat→Bool) a l i,List.findIdx?.go p (a::l) i=if p a=true then some i else List.findIdx?.go p l (i+1))∧
  (∀ (a d:Value) l,(a::l).getD 0 d=a)∧(∀ (a d:Value) l n,(a::l).getD (n+1) d=l.getD n d)∧
  (∀ (a b:Option Nat) (i:Decidable True),@ite _ True i a b=a)∧(∀ (a b:Option Nat) (i:Decidable False),@ite _ False i a b=b)∧(false=true)=False:=
 ⟨chained_get,fun _ _=>rfl,fun _ _=>rfl,fun _ _=>rfl,fun _ _=>rfl,fun _ _ _ _=>rfl,fun _ _ _=>rfl,fun _ _ _ _=>rfl,fun a b i=>if_pos trivial,fun a b i=>if_neg id,Bool.false_eq_true⟩
end Go.Proofs.YtobegmcbfgnpnaaGreatDoor.Ch
