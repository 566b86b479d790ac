/-
  Append as a step of the walk; slices of bytes that are the call's own. Over any program.
-/
import Derived.Test.YtobegmcbfgnpnaaGreatDoorU07
import Derived.Test.YtobegmcbfgnpnaaGreatDoorU03
set_option linter.unusedVariables false
set_option linter.unusedSimpArgs false
set_option maxHeartbeats 0
set_option maxRecDepth 200000
namespace Go.Proofs.YtobegmcbfgnpnaaGreatDoor
open Go.RowKit
structure SliceT (P:Program) (t e:TypeId) (size bytes:Nat):Prop where
 ht:P.underlying t=some (.slice e)
 info:∃ i z,P.info? e=some i∧i.zero=some z∧z.cells.size=size∧i.size=size∧i.bytes=bytes
theorem wp_append_grew {P:Program}{o:Oper}{a:Act}{w:World}{K:Act→World→Prop}{Q:Exit→Act→World→Prop} (s x:Operand) (t u:TypeId)
  (ho:o.op = .call { callee:=.builtin .append,args:=#[s,x],argTypes:=#[t,u] })
  {e:TypeId}{size bytes:Nat}(hT:SliceT P t e size bytes) (d:TypeDesc)(hu:P.underlying u=some d)(hd:∀ k,d≠.int k)
  (v:Value) (n:Nat) (xs:List Value)(hs:a.eval s=v)(hown:w.ownsRow 0 e size v n xs)
  (xv:Value) (m:Nat) (news:List Value)(hx:a.eval x=xv)(hsrc:Source P w size xv m news)
  (h63:n+m≤maxLen)(hbytes:(n+m)*bytes≤140737488355328)
  (h:∀ v' w',w'.ownsRow 0 e size v' (n+m) (xs++news)→Grew w w' v v'→(v' = .slice none 0 0↔v = .slice none 0 0∧m=0)→K (a.put o.dst v') w'):o.wp P a w K Q:=by
 obtain⟨ht,i,z,hi,hz,hzs,rfl,rfl⟩:=hT
 obtain⟨v',w',hr,h2,h3,h4⟩:=run_append_grew (P:=P) w t u o.type e d i z ht hu hd hi hz hzs v n xs hown xv m news hsrc h63 hbytes
 unfold Oper.wp execOp;simp only[ho,resolve,invoke,builtin,Sem.run_bind,Sem.run_pure,Result.andThen_ok,List.map_toArray,List.map_cons,List.map_nil,hs,hx,hr]
 exact h v' w' h2 h3 h4
theorem wpList_append_grew {P:Program}{ops:Array Oper}{rest:List Oper}{o:Oper}{a:Act}{w:World}{Q:Exit→Act→World→Prop}(hgd:o.guard=none) (s x:Operand) (t u:TypeId)
  (ho:o.op = .call { callee:=.builtin .append,args:=#[s,x],argTypes:=#[t,u] })
  {e:TypeId}{size bytes:Nat}(hT:SliceT P t e size bytes) (d:TypeDesc)(hu:P.underlying u=some d)(hd:∀ k,d≠.int k)
  (v:Value) (n:Nat) (xs:List Value)(hs:a.eval s=v)(hown:w.ownsRow 0 e size v n xs)
  (xv:Value) (m:Nat) (news:List Value)(hx:a.eval x=xv)(hsrc:Source P w size xv m news)
  (h63:n+m≤maxLen)(hbytes:(n+m)*bytes≤140737488355328)
  (h:∀ v' w',w'.ownsRow 0 e size v' (n+m) (xs++news)→Grew w w' v v'→(v' = .slice none 0 0↔v = .slice none 0 0∧m=0)→wpList P ops Q rest (a.put o.dst v') w'):wpList P ops Q (o::rest) a w:=
 wpList_plain hgd fun _ hK=>wp_append_grew s x t u ho hT d hu hd v n xs hs hown xv m news hx hsrc h63 hbytes fun v' w' h2 h3 h4=>hK _ _ (h v' w' h2 h3 h4)
theorem conv_bytes {P:Program}{w:World}{a:Option Addr}{l:List UInt8}{src dst e:TypeId}(hs:P.underlying src=some (.slice e))(he:P.underlying e=some (.int .u8))(hd:P.underlying dst=some .string)
  (hb:BytesAt w a l) (cap:Nat):(convert src dst (.slice a l.length cap)).run P w = .ok (.string ⟨l.toArray⟩) w:=by
 rcases a with _ | a
 ·have:l=[]:=by
   cases l with
   | nil=>rfl
   | cons x l=>obtain⟨b,off,h,_⟩:=hb 0 (by simp);cases h
  subst this;exact run_convert_bytes_nil w src e hs he 0 cap dst hd
 ·refine run_convert_bytes_back w src dst e a cap l hs he hd fun j hj=>?_
  obtain⟨b,off,ha,hc⟩:=hb j hj
  obtain rfl:=Option.some.inj ha
  have e1:(⟨b,off,none⟩:Addr).add j=⟨b,off+j,none⟩:=by unfold Addr.add;split<;>simp_all
  rw[e1];exact hc
def Box (w:World) (g:Nat) (cs:List Value) (t:TypeId):Prop:=w.heap[g]? = some (.cells cs.toArray t (0,0))
theorem Box.cell {w:World}{g:Nat}{cs:List Value}{t:TypeId}(h:Box w g cs t) {j:Nat}{u:Value}(hj:cs[j]? = some u):w.cell? ⟨g,j,none⟩=some u:=by
 rw[cell_of_row w g j cs.toArray t (0,0) h]
 simpa using hj
theorem Box.free {w:World}{g:Nat}{cs:List Value}{t:TypeId}(h:Box w g cs t) (j:Nat):w.frozen? ⟨g,j,none⟩=false:=by
 have h':w.heap[g]? = _:=h
 simp[World.frozen?,h']
theorem Box.chg {S:Nat→Prop}{w w':World}{g:Nat}{cs:List Value}{t:TypeId}(h:Box w g cs t)(hc:Chg S w w')(hn:¬S g):Box w' g cs t:=
 (hc.block g (Array.getElem?_eq_some_iff.1 h).1 hn).trans h
theorem Box.set {w:World}{g:Nat}{cs:List Value}{t:TypeId}(h:Box w g cs t) (j:Nat) (u:Value):Box (w.setCell ⟨g,j,none⟩ u) g (cs.set j u) t:=by
 have h':w.heap[g]? = _:=h
 unfold Box;simp only[World.setCell,Array.getElem?_modify,if_true,h',Option.map_some]
 simp
theorem Box.new (w:World) (cs:List Value) (t:TypeId):Box (w.alloc (.cells cs.toArray t)) w.heap.size cs t:=heap_alloc_new w _
theorem Source.box {P:Program}{w:World}{g size m c:Nat}{cs:List Value}{t:TypeId}(h:Box w g cs t)(hl:cs.length=m*size)(h1:∀ u∈cs,u.oneCell'=true):Source P w size (.slice (some ⟨g,0,none⟩) m c) m cs:=
 Source.slice hl (fun j u hj=>by
  have e1:(⟨g,0,none⟩:Addr).add j=⟨g,j,none⟩:=by unfold Addr.add;split<;>simp_all
  rw[e1];exact h.cell hj) h1
theorem ownsRow_form {w:World}{e:TypeId}{size n:Nat}{v:Value}{xs:List Value}(h:w.ownsRow 0 e size v n xs):∃ x k c,v = .slice x k c:=by
 rcases h.2 with ⟨rfl,_⟩ | ⟨g,cap,cur,rfl,_⟩
 ·exact⟨_,_,_,rfl⟩
 ·exact⟨_,_,_,rfl⟩
theorem cell_set {w:World}{g j k:Nat}{v u:Value}(hj:w.cell? ⟨g,j,none⟩=some v):(w.setCell ⟨g,k,none⟩ u).cell? ⟨g,j,none⟩=some (if k=j then u else v):=by
 unfold World.cell? at hj
 cases hg:w.heap[g]? with
 | none=>simp[hg] at hj
 | some o=>
  cases o with
  | cells c e fr=>
   simp only[hg] at hj
   have hlt:j<c.size:=by
    simp at hj
    exact (Array.getElem?_eq_some_iff.1 hj).1
   simp only[World.cell?,World.setCell,Array.getElem?_modify,if_true,hg,Option.map_some]
   simp only[Option.isSome_none,Bool.false_eq_true,if_false,Array.getElem?_setIfInBounds]
   by_cases e:k=j
   ·subst e;simp[hlt]
   ·rw[if_neg e,if_neg e]
    simpa using hj
  | _=>simp[hg] at hj
theorem frozen_set {w:World}{p q:Addr}{u:Value}:(w.setCell p u).frozen? q=w.frozen? q:=by
 simp only[World.frozen?,World.setCell,Array.getElem?_modify]
 by_cases e:p.block=q.block
 ·rw[if_pos e]
  cases w.heap[q.block]? with
  | none=>rfl
  | some o=>cases o<;>rfl
 ·rw[if_neg e]
def vA:Value→Option Addr | .slice a _ _=>a | _=>none
def vN:Value→Nat | .slice _ n _=>n | _=>0
def vC:Value→Nat | .slice _ _ c=>c | _=>0
theorem form_eq {v:Value}(h:∃ x k c,v = .slice x k c):v = .slice (vA v) (vN v) (vC v):=by
 obtain⟨x,k,c,rfl⟩:=h
 rfl
theorem Ch.if_append_row {P:Program}{o:Oper}{a:Act}{w:World}{N:Value→World→Prop}{y:Nat→Option Bool}(hgd:o.guard=none) (s x:Operand) (t u:TypeId)
  (ho:o.op = .call { callee:=.builtin .append,args:=#[s,x],argTypes:=#[t,u] })
  {e:TypeId}{size bytes:Nat}(hT:SliceT P t e size bytes) (d:TypeDesc)(hu:P.underlying u=some d)(hd:∀ k,d≠.int k)
  (v:Value) (n:Nat) (xs:List Value)(hs:a.eval s=v)(hown:w.ownsRow 0 e size v n xs)
  (xv:Value) (m:Nat) (news:List Value)(hx:a.eval x=xv)(hsrc:Source P w size xv m news)
  (h63:n+m≤maxLen)(hb:(n+m)*bytes≤140737488355328)
  (h:∀ v' w',w'.ownsRow 0 e size v' (n+m) (xs++news)→Grew w w' v v'→N v' w'):if Region.wanted o y=true then Ch.gives P N ((execOp a.eval o).run P w) else N undef w:=by
 have hw:Region.wanted o y=true:=by unfold Region.wanted;rw[hgd]
 rw[if_pos hw]
 obtain⟨ht,i,z,hi,hz,hzs,rfl,rfl⟩:=hT
 obtain⟨v',w',hr,g2,g3,_⟩:=run_append_grew (P:=P) w t u o.type e d i z ht hu hd hi hz hzs v n xs hown xv m news hsrc h63 hb
 unfold execOp;simp only[ho,resolve,invoke,builtin,Sem.run_bind,Sem.run_pure,Result.andThen_ok,List.map_toArray,List.map_cons,List.map_nil,hs,hx,hr]
 exact h v' w' g2 g3
end Go.Proofs.YtobegmcbfgnpnaaGreatDoor
