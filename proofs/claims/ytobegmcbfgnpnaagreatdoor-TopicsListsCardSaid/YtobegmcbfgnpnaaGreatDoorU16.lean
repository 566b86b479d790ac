/-
  A slice of the call's own that may have less room than its block (cut by x[:n:n]), or none at all; what an append to it leaves. Over any program.
-/
import Derived.Test.YtobegmcbfgnpnaaGreatDoorU08
set_option linter.unusedVariables false
set_option linter.unusedSimpArgs false
set_option maxHeartbeats 0
set_option maxRecDepth 200000
namespace Go.Proofs.YtobegmcbfgnpnaaGreatDoor
open Go.RowKit
def SlcRow (w:World) (e:TypeId) (size:Nat) (v:Value) (n:Nat) (xs:List Value):Prop:=
 xs.length=n*size∧((v = .slice none 0 0∧n=0)∨(∃ a,v = .slice (some a) 0 0∧n=0)∨
  ∃ g cap cur,v = .slice (some ⟨g,0,none⟩) n cap∧w.heap[g]? = some (.cells cur e (0,0))∧n≤cap∧cap≤maxLen∧cap*size≤cur.size∧cur.toList.take (n*size)=xs)
def Value.room:Value→Option Nat
 | .slice (some a) _ (c+1)=>some a.block
 | _=>none
def Room (v:Value):Nat→Prop:=fun k=>Value.room v=some k
theorem SlcRow.nil (w:World) (e:TypeId) (size:Nat):SlcRow w e size (.slice none 0 0) 0 []:=⟨by simp,.inl ⟨rfl,rfl⟩⟩
theorem SlcRow.zero (w:World) (e:TypeId) (size:Nat) (a:Addr):SlcRow w e size (.slice (some a) 0 0) 0 []:=⟨by simp,.inr (.inl ⟨a,rfl,rfl⟩)⟩
theorem SlcRow.chg {S:Nat→Prop}{w w':World}{e:TypeId}{size:Nat}{v:Value}{n:Nat}{xs:List Value}(h:SlcRow w e size v n xs)(hc:Chg S w w')(hn:∀ k,Value.room v=some k→¬S k):SlcRow w' e size v n xs:=by
 refine⟨h.1,?_⟩
 rcases h.2 with h | h | ⟨g,cap,cur,h1,h2,h3,h4,h5,h6⟩
 ·exact .inl h
 ·exact .inr (.inl h)
 ·cases cap with
  | zero=>
   obtain rfl:n=0:=by omega
   exact .inr (.inl ⟨_,h1,rfl⟩)
  | succ c=>exact .inr (.inr ⟨g,c+1,cur,h1,(hc.block g (by have:=(Array.getElem?_eq_some_iff.1 h2).1;exact this) (hn g (by rw[h1];rfl))).trans h2,h3,h4,h5,h6⟩)
theorem SlcRow.lt {w:World}{e:TypeId}{size:Nat}{v:Value}{n:Nat}{xs:List Value}(h:SlcRow w e size v n xs):∀ k,Value.room v=some k→k<w.heap.size:=by
 intro k hk;rcases h.2 with ⟨rfl,_⟩ | ⟨a,rfl,_⟩ | ⟨g,cap,cur,rfl,h2,_⟩
 ·cases hk
 ·cases hk
 ·cases cap with
  | zero=>cases hk
  | succ c=>obtain rfl:g=k:=Option.some.inj hk;exact (Array.getElem?_eq_some_iff.1 h2).1
theorem SlcRow.row {w:World}{e:TypeId}{size:Nat}{v:Value}{n:Nat}{xs:List Value}(h:SlcRow w e size v n xs):∀ k,Value.room v=some k→∃ cur,w.heap[k]? = some (.cells cur e (0,0)):=by
 intro k hk;rcases h.2 with ⟨rfl,_⟩ | ⟨a,rfl,_⟩ | ⟨g,cap,cur,rfl,h2,_⟩
 ·cases hk
 ·cases hk
 ·cases cap with
  | zero=>cases hk
  | succ c=>obtain rfl:g=k:=Option.some.inj hk;exact⟨cur,h2⟩
theorem SlcRow.form {w:World}{e:TypeId}{size:Nat}{v:Value}{n:Nat}{xs:List Value}(h:SlcRow w e size v n xs):∃ a c,v = .slice a n c∧n≤c∧n≤maxLen:=by
 rcases h.2 with ⟨rfl,rfl⟩ | ⟨a,rfl,rfl⟩ | ⟨g,cap,cur,rfl,h2,h3,h4,_⟩
 ·exact⟨_,_,rfl,Nat.le_refl _,Nat.zero_le _⟩
 ·exact⟨_,_,rfl,Nat.le_refl _,Nat.zero_le _⟩
 ·exact⟨_,_,rfl,h3,Nat.le_trans h3 h4⟩
structure Grewn (w w':World) (v v':Value):Prop where
 chg:Chg (Room v) w w'
 own:∀ k,Value.room v'=some k→Value.room v=some k∨w.heap.size≤k
theorem run_append_slc {P:Program} (w:World) (t u ty e:TypeId) (d:TypeDesc) (i:TypeInfo) (z:Value)(ht:P.underlying t=some (.slice e))(hu:P.underlying u=some d)(hd:∀ k,d≠.int k)
  (hi:P.info? e=some i)(hz:i.zero=some z)(hzs:z.cells.size=i.size) (v:Value) (n:Nat) (xs:List Value)(hown:SlcRow w e i.size v n xs)
  (x:Value) (m:Nat) (news:List Value)(hx:Source P w i.size x m news)(h63:n+m≤maxLen)(hbytes:(n+m)*i.bytes≤140737488355328) :
  ∃ v' w',(Builtin.append_ #[t,u] ty #[v,x]).run P w = .ok v' w'∧SlcRow w' e i.size v' (n+m) (xs++news)∧Grewn w w' v v':=by
 have hlen:(xs++news).length=(n+m)*i.size:=by rw[List.length_append,hown.1,hx.length,Nat.add_mul]
 have hlx:=hx.len
 have hfx:=hx.first w (fun _=>rfl)
 have hfd:=hx.first w.drew (fun _=>rfl)
 have hsmall:n+m≤9223372036854775807:=by simp only[maxLen] at h63;omega
 have grown:∀ (old:Nat),old<n+m→
   SlcRow (w.drew.alloc (.cells (xs.toArray++news.toArray++Builtin.zeroCells z.cells (grownCap w (n+m) old e-(n+m))) e)) e i.size
    (.slice (some ⟨w.heap.size,0,none⟩) (n+m) (grownCap w (n+m) old e)) (n+m) (xs++news)∧
   Grewn w (w.drew.alloc (.cells (xs.toArray++news.toArray++Builtin.zeroCells z.cells (grownCap w (n+m) old e-(n+m))) e)) v (.slice (some ⟨w.heap.size,0,none⟩) (n+m) (grownCap w (n+m) old e)):=by
  intro old ho;have hge:=grownCap_ge w (n+m) old e
  have hcm:grownCap w (n+m) old e≤maxLen:=grownCap_le_maxLen w (n+m) old e h63
  refine⟨⟨hlen,.inr (.inr ⟨w.heap.size,_,_,rfl,heap_alloc_new w.drew _,hge,hcm,?_,?_⟩)⟩,⟨(Chg.refl _ _).drew.alloc _,fun k hk=>.inr ?_⟩⟩
  ·simp only[Array.size_append,List.size_toArray,size_zeroCells,hzs,hown.1,hx.length,←Nat.add_mul]
   refine Nat.le_of_eq ?_
   congr 1
   omega
  ·simp only[Array.toList_append,List.append_assoc]
   rw[←List.append_assoc,←hlen];exact List.take_left
  ·cases hc:grownCap w (n+m) old e with
   | zero=>rw[hc] at hk;cases hk
   | succ c=>
    rw[hc] at hk;have:w.heap.size=k:=Option.some.inj hk
    omega
 rcases hown.2 with ⟨rfl,rfl⟩ | ⟨a,rfl,rfl⟩ | ⟨g,cap,cur,rfl,hg,hnc,hcm,hcs,htake⟩
 ·have hxs:xs=[]:=List.eq_nil_of_length_eq_zero (by simpa using hown.1)
  subst hxs;by_cases hm:m=0
  ·subst hm;have hn:news=[]:=List.eq_nil_of_length_eq_zero (by simpa using hx.length)
   subst hn;refine⟨.slice none 0 0,w,?_,SlcRow.nil w e i.size,⟨Chg.refl _ _,fun k hk=>.inl hk⟩⟩
   simp[Builtin.append_,run_underlying ht,run_underlying hu,sizeOf,typeInfo,hi,hlx,hfx]
  ·have h63':¬(9223372036854775807<(m:Int)):=by omega
   have h48':¬(281474976710656<Builtin.nextslicecap m 0*i.bytes):=by
    rw[nextslicecap_zero (by omega)];simp only[Nat.zero_add] at hbytes;omega
   have hgr:=grown 0 (by omega)
   simp only[Nat.zero_add,List.nil_append,Array.empty_append] at hgr ⊢
   refine⟨_,_,?_,hgr.1,hgr.2⟩
   simp[Builtin.append_,run_underlying ht,run_underlying hu,sizeOf,typeInfo,zeroValue,hi,hz,hlx,hfd,hm,h63',h48',Question.forced,run_firstCells_none,newRow,grownCap]
 ·have hxs:xs=[]:=List.eq_nil_of_length_eq_zero (by simpa using hown.1)
  subst hxs;have hfo:=run_firstCells_some (P:=P) w.drew i.size 0 a 0 0 [] (by simp) (by simp)
  by_cases hm:m=0
  ·subst hm;have hn:news=[]:=List.eq_nil_of_length_eq_zero (by simpa using hx.length)
   subst hn;refine⟨.slice (some a) 0 0,w,?_,SlcRow.zero w e i.size a,⟨Chg.refl _ _,fun k hk=>.inl hk⟩⟩
   simp[Builtin.append_,run_underlying ht,run_underlying hu,sizeOf,typeInfo,hi,hlx,hfx,storeCells,Result.andThen]
  ·have h63':¬(9223372036854775807<(m:Int)):=by omega
   have h48':¬(281474976710656<Builtin.nextslicecap m 0*i.bytes):=by
    rw[nextslicecap_zero (by omega)];simp only[Nat.zero_add] at hbytes;omega
   have hgr:=grown 0 (by omega)
   simp only[Nat.zero_add,List.nil_append,Array.empty_append] at hgr ⊢
   refine⟨_,_,?_,hgr.1,hgr.2⟩
   simp[Builtin.append_,run_underlying ht,run_underlying hu,sizeOf,typeInfo,zeroValue,hi,hz,hlx,hfd,hfo,hm,h63',h48',Question.forced,newRow,grownCap]
 ·by_cases hroom:n+m≤cap
  ·have hfit:n*i.size+news.length≤cur.size:=by rw[hx.length,←Nat.add_mul];exact Nat.le_trans (Nat.mul_le_mul_right _ hroom) hcs
   have hst:=run_storeCells_at P g (n*i.size) e news 0 cur w hg (by simpa using hfit) hx.one
   simp only[Nat.add_zero] at hst
   refine⟨.slice (some ⟨g,0,none⟩) (n+m) cap,w.setRow g (cur.toList.take (n*i.size)++news++cur.toList.drop (n*i.size+news.length)).toArray,?_,
    ⟨hlen,.inr (.inr ⟨g,cap,_,rfl,setRow_heap w g cur _ e _ hg,hroom,hcm,?_,?_⟩)⟩,?_⟩
   ·simp[Builtin.append_,run_underlying ht,run_underlying hu,sizeOf,typeInfo,hi,hlx,hroom,hfx,Addr.add_lit,hst]
   ·simp only[List.size_toArray,List.length_append,List.length_take,List.length_drop,Array.length_toList]
    omega
   ·rw[htake,←hlen];exact List.take_left
   ·cases cap with
    | zero=>
     have hm:m=0:=by omega
     obtain rfl:n=0:=by omega
     have hn:news=[]:=List.eq_nil_of_length_eq_zero (by rw[hx.length,hm,Nat.zero_mul])
     subst hn;have e1:w.setRow g (cur.toList.take (0*i.size)++[]++cur.toList.drop (0*i.size+([]:List Value).length)).toArray=w:=by
      simp only[List.append_nil,List.length_nil,Nat.add_zero,List.take_append_drop,Array.toArray_toList]
      exact setRow_self w g cur e (0,0) hg
     rw[e1];exact⟨Chg.refl _ _,fun k hk=>.inl hk⟩
    | succ c=>exact⟨⟨rfl,rfl,rfl,by simp[World.setRow],fun k _ hk=>setRow_other w g k _ (fun e=>hk (by simp[Room,Value.room,e]))⟩,fun k hk=>.inl hk⟩
  ·have holds:∀ j y,xs[j]? = some y→w.cell? ((⟨g,0,none⟩:Addr).add j)=some y:=by
    intro j y hj;have e1:(⟨g,0,none⟩:Addr).add j=⟨g,j,none⟩:=by unfold Addr.add;split<;>simp_all
    rw[e1,cell_of_row w g j cur e (0,0) hg]
    rw[←htake,List.getElem?_take] at hj
    split at hj
    ·simpa using hj
    ·cases hj
   have hfo:=run_firstCells_some (P:=P) w.drew i.size n ⟨g,0,none⟩ n cap xs hown.1 (by simpa using holds)
   have h63':¬(9223372036854775807<((n:Int)+(m:Int))):=by omega
   have h48':¬(281474976710656<Builtin.nextslicecap (n+m) cap*i.bytes):=by
    have:=growslice_fits (need:=n+m) (old:=cap) (by omega) hbytes
    omega
   have hgr:=grown cap (by omega)
   refine⟨_,_,?_,hgr.1,hgr.2⟩
   simp[Builtin.append_,run_underlying ht,run_underlying hu,sizeOf,typeInfo,zeroValue,hi,hz,hlx,hfd,hfo,hroom,h63',h48',Question.forced,newRow,grownCap]
   congr 2
   apply Array.ext'
   simp[List.append_assoc]
end Go.Proofs.YtobegmcbfgnpnaaGreatDoor
