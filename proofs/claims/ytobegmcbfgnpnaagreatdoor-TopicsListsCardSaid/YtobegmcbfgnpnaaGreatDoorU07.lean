/-
  A list of topics, plain: lines, words, numbers. (Of the topics' seat.)
-/
import Derived.Test.YtobegmcbfgnpnaaGreatDoorU06
set_option linter.unusedVariables false
set_option linter.unusedSimpArgs false
set_option maxHeartbeats 0
set_option maxRecDepth 200000
namespace Go.Proofs.YtobegmcbfgnpnaaGreatDoor
open Go.Lib
def cutAt (c:UInt8):List UInt8→List (List UInt8)
 | []=>[[]]
 | x::r=>if x=c then []::cutAt c r else match cutAt c r with
  | []=>[[x]]
  | h::t=>(x::h)::t
theorem cutAt_ne (c:UInt8) (l:List UInt8):cutAt c l≠[]:=by
 cases l with
 | nil=>simp[cutAt]
 | cons x r=>
  unfold cutAt;split
  ·simp
  ·split<;>simp
theorem cutAt_no {c:UInt8}:∀ {p:List UInt8},c ∉ p→cutAt c p=[p]
 | [],_=>rfl
 | x::r,h=>by
  have hx:¬x=c:=fun e=>h (by rw[e];exact List.mem_cons_self ..)
  unfold cutAt;rw[if_neg hx,cutAt_no (fun hm=>h (List.mem_cons_of_mem _ hm))]
theorem cutAt_pre {c:UInt8}:∀ {p:List UInt8} (r:List UInt8),c ∉ p→cutAt c (p++c::r)=p::cutAt c r
 | [],r,_=>by simp[cutAt]
 | x::p,r,h=>by
  have hx:¬x=c:=fun e=>h (by rw[e];exact List.mem_cons_self ..)
  rw[List.cons_append];conv=>lhs;unfold cutAt
  rw[if_neg hx,cutAt_pre r (fun hm=>h (List.mem_cons_of_mem _ hm))]
theorem indexByte_at:∀ (l:List UInt8) (c:UInt8),(indexByte l c = -1∧c ∉ l)∨∃ i:Nat,indexByte l c=i∧i<l.length∧c ∉ l.take i∧l=l.take i++c::l.drop (i+1)
 | [],c=>.inl ⟨rfl,by simp⟩
 | b::l,c=>by
  by_cases hb:b=c
  ·right
   refine⟨0,?_,by simp,by simp,by simp[hb]⟩
   simp[indexByte,hb]
  ·rcases indexByte_at l c with ⟨h1,h2⟩ | ⟨i,h1,h2,h3,h4⟩
   ·left
    refine⟨by simp[indexByte,hb,h1],?_⟩
    rw[List.mem_cons];rintro (e | e)
    ·exact hb e.symm
    ·exact h2 e
   ·right
    have h5:¬((i:Int) = -1):=by omega
    refine⟨i+1,by simp[indexByte,hb,h1,h5],by simp;omega,?_,?_⟩
    ·rw[List.take_succ_cons,List.mem_cons];rintro (e | e)
     ·exact hb e.symm
     ·exact h3 e
    ·rw[List.take_succ_cons,List.drop_succ_cons,List.cons_append,←h4]
theorem cutAt_len {c:UInt8}:∀ (l:List UInt8),(cutAt c l).length≤l.length+1
 | []=>by simp[cutAt]
 | x::r=>by
  have h:=cutAt_len (c:=c) r
  unfold cutAt;split
  ·simp;omega
  ·split
   ·simp
   ·next e=>rw[e] at h;simp at h ⊢;omega
theorem index_one (c:UInt8):∀ l:List UInt8,index l [c]=indexByte l c
 | []=>rfl
 | b::l=>by
  have e:([c]:List UInt8).isPrefixOf (b::l)=(b==c):=by
   by_cases h:b=c
   ·subst h;simp[List.isPrefixOf]
   ·have h':¬c=b:=fun e=>h e.symm
    rw[beq_eq_false_iff_ne.2 h]
    simp[List.isPrefixOf,h']
  unfold index indexByte;rw[e,index_one c l]
theorem splitK_one (c:UInt8):∀ (n:Nat) (l:List UInt8),l.length≤n→splitK [c] 0 (count l [c]) l=cutAt c l:=by
 intro n;induction n with
 | zero=>
  intro l h;obtain rfl:=List.length_eq_zero_iff.1 (Nat.le_zero.1 h)
  rfl
 | succ n ih=>
  intro l h;rcases indexByte_at l c with ⟨h1,h2⟩ | ⟨i,h1,h2,h3,h4⟩
  ·have hi:index l [c] = -1:=by rw[index_one];exact h1
   rw[count_miss hi,cutAt_no h2]
   rfl
  ·have hi:index l [c]=i:=by rw[index_one];exact h1
   rw[count_hit (by simp) hi,Nat.add_comm]
   unfold splitK;rw[hi,if_neg (by simp)]
   have e:((i:Nat):Int).toNat=i:=rfl
   rw[e,Nat.add_zero];have hd:(l.drop (i+[c].length)).length≤n:=by rw[List.length_drop];simp;omega
   rw[ih _ hd]
   conv=>rhs;rw[h4,cutAt_pre _ h3]
   rfl
def linesV:List (List UInt8)→List (List UInt8)
 | []=>[]
 | [p]=>if p=[] then [] else [p]
 | p::q::r=>p::linesV (q::r)
def linesOf (l:List UInt8):List (List UInt8):=linesV (cutAt 10 l)
def yieldsV:List (List UInt8)→List (List UInt8)
 | []=>[]
 | [p]=>if p=[] then [] else [p]
 | p::q::r=>(p++[10])::yieldsV (q::r)
def yieldsOf (l:List UInt8):List (List UInt8):=yieldsV (cutAt 10 l)
def chop (l:List UInt8):List UInt8:=if [10].isSuffixOf l then l.take (l.length-1) else l
theorem yieldsOf_nil:yieldsOf []=[]:=rfl
theorem yieldsOf_hit {l:List UInt8}{i:Nat}(h:indexByte l 10=i):i<l.length∧yieldsOf l=l.take (i+1)::yieldsOf (l.drop (i+1)):=by
 rcases indexByte_at l 10 with ⟨h1,_⟩ | ⟨j,h1,h2,h3,h4⟩
 ·omega
 ·obtain rfl:i=j:=by omega
  refine⟨h2,?_⟩
  have e:l.take (i+1)=l.take i++[10]:=by
   have h5:l[i]? = some 10:=by
    rw[h4,List.getElem?_append_right (by rw[List.length_take];omega),List.length_take,Nat.min_eq_left (by omega),Nat.sub_self]
    rfl
   rw[List.take_add_one,h5];rfl
  unfold yieldsOf;conv=>lhs;rw[h4,cutAt_pre _ h3]
  rw[e];cases hc:cutAt 10 (l.drop (i+1)) with
  | nil=>exact absurd hc (cutAt_ne _ _)
  | cons q r=>rfl
theorem yieldsOf_miss {l:List UInt8}(h:indexByte l 10<0)(hn:l≠[]):yieldsOf l=[l]:=by
 rcases indexByte_at l 10 with ⟨h1,h2⟩ | ⟨j,h1,_⟩
 ·unfold yieldsOf;rw[cutAt_no h2]
  unfold yieldsV;rw[if_neg hn]
 ·omega
theorem cutAt_mem {c:UInt8}:∀ {l p:List UInt8},p∈cutAt c l→c ∉ p
 | [],p,h=>by simp[cutAt] at h;simp[h]
 | x::r,p,h=>by
  unfold cutAt at h;split at h
  ·rcases List.mem_cons.1 h with rfl | h
   ·simp
   ·exact cutAt_mem h
  ·next hx=>
   have ih:=fun q hq=>@cutAt_mem c r q hq
   cases hc:cutAt c r with
   | nil=>exact absurd hc (cutAt_ne _ _)
   | cons q t=>
    rw[hc] at h ih
    rcases List.mem_cons.1 h with rfl | h
    ·rw[List.mem_cons];rintro (e | e)
     ·exact hx e.symm
     ·exact ih q (List.mem_cons_self ..) e
    ·exact ih p (List.mem_cons_of_mem _ h)
theorem chop_nl (p:List UInt8):chop (p++[10])=p:=by
 have h:([10]:List UInt8).isSuffixOf (p++[10])=true:=by rw[List.isSuffixOf_iff_suffix];exact List.suffix_append _ _
 unfold chop;rw[if_pos h,List.length_append,List.length_singleton,Nat.add_sub_cancel,List.take_left]
theorem chop_no {p:List UInt8}(h:(10:UInt8) ∉ p):chop p=p:=by
 have h2:¬([10]:List UInt8).isSuffixOf p=true:=fun hs=>by
  rw[List.isSuffixOf_iff_suffix] at hs;exact h (hs.subset (List.mem_singleton.2 rfl))
 unfold chop;rw[if_neg h2]
theorem chop_yields (l:List UInt8):(yieldsOf l).map chop=linesOf l:=by
 have key:∀ ps:List (List UInt8),(∀ p∈ps,(10:UInt8) ∉ p)→(yieldsV ps).map chop=linesV ps:=by
  intro ps;induction ps with
  | nil=>intro _;rfl
  | cons p r ih=>
   intro h;cases r with
   | nil=>
    unfold yieldsV linesV;split
    ·rfl
    ·rw[List.map_cons,List.map_nil,chop_no (h p (List.mem_cons_self ..))]
   | cons q r=>
    unfold yieldsV linesV;rw[List.map_cons,chop_nl,ih (fun x hx=>h x (List.mem_cons_of_mem _ hx))]
 exact key _ (fun p hp=>cutAt_mem hp)
theorem linesV_last:∀ (ps:List (List UInt8)) (p:List UInt8),linesV (ps++[p])=if p=[] then ps else ps++[p]
 | [],p=>by
  show linesV [p]=_
  unfold linesV;rfl
 | [a],p=>by
  show a::linesV [p]=_
  rw[show linesV [p]=if p=[] then [] else [p] from rfl]
  split<;>rfl
 | a::b::r,p=>by
  have h:=linesV_last (b::r) p
  show a::linesV ((b::r)++[p])=_
  rw[h];split<;>rfl
open Go.RowKit
structure Chg (S:Nat→Prop) (w w':World):Prop where
 os:w'.os=w.os
 tape:w'.tape=w.tape
 output:w'.output=w.output
 size:w.heap.size≤w'.heap.size
 block:∀ k,k<w.heap.size→¬S k→w'.heap[k]? = w.heap[k]?
def Nil:Nat→Prop:=fun _=>False
theorem Chg.refl (S:Nat→Prop) (w:World):Chg S w w:=⟨rfl,rfl,rfl,Nat.le_refl _,fun _ _ _=>rfl⟩
theorem Chg.trans {S S':Nat→Prop}{a b c:World}(h:Chg S a b) (k:Chg S' b c)(hs:∀ i,S' i→S i∨a.heap.size≤i):Chg S a c:=
 ⟨k.os.trans h.os,k.tape.trans h.tape,k.output.trans h.output,Nat.le_trans h.size k.size,fun i hi hn=>by
  rw[k.block i (Nat.lt_of_lt_of_le hi h.size) (fun g=>(hs i g).elim hn (fun g=>by omega)),h.block i hi hn]⟩
theorem Chg.weak {S S':Nat→Prop}{a b:World}(h:Chg S a b)(hs:∀ i,S i→S' i∨a.heap.size≤i):Chg S' a b:=
 ⟨h.os,h.tape,h.output,h.size,fun i hi hn=>h.block i hi (fun g=>(hs i g).elim hn (fun g=>by omega))⟩
theorem Chg.drew {S:Nat→Prop}{a w:World}(h:Chg S a w):Chg S a w.drew:=⟨h.os,h.tape,h.output,h.size,h.block⟩
theorem Chg.drewN {S:Nat→Prop}{a w:World}(h:Chg S a w) (n:Nat):Chg S a (w.drewN n):=⟨h.os,h.tape,h.output,h.size,h.block⟩
theorem Chg.alloc {S:Nat→Prop}{a w:World}(h:Chg S a w) (o:Obj):Chg S a (w.alloc o):=
 ⟨h.os,h.tape,h.output,Nat.le_trans h.size (by simp),fun i hi hn=>by
  rw[Below.heap_alloc w o i (Nat.lt_of_lt_of_le hi h.size),h.block i hi hn]⟩
theorem Chg.setCell {S:Nat→Prop}{a w:World}(h:Chg S a w) {p:Addr}(hp:S p.block∨a.heap.size≤p.block) (u:Value):Chg S a (w.setCell p u):=
 ⟨h.os,h.tape,h.output,by have:=h.size;simpa [World.setCell] using this,fun i hi hn=>by
  rw[Below.heap_setCell _ _ _ _ (fun e=>by subst e;exact hp.elim hn (fun g=>by omega)),h.block i hi hn]⟩
theorem Chg.grown {S:Nat→Prop}{a w w':World}{row:Option Nat}(h:Chg S a w)(hg:w.grownBy w' row)(hr:∀ k,row=some k→S k∨a.heap.size≤k):Chg S a w':=
 ⟨hg.os.trans h.os,hg.tape.trans h.tape,hg.output.trans h.output,Nat.le_trans h.size hg.size,fun i hi hn=>by
  rw[hg.block i (Nat.lt_of_lt_of_le hi h.size) (fun e=>(hr i e.symm).elim hn (fun g=>by omega)),h.block i hi hn]⟩
theorem Chg.below {S:Nat→Prop}{w w':World}(h:Chg S w w')(hs:∀ i,i<w.heap.size→¬S i):Below w.heap.size w w':=
 ⟨h.os,h.tape,h.output,h.size,fun k hk=>h.block k hk (hs k hk)⟩
theorem Chg.of_below {w w':World}(h:Below w.heap.size w w') (S:Nat→Prop):Chg S w w':=
 ⟨h.os,h.tape,h.output,h.size,fun k hk _=>h.block k hk⟩
theorem Chg.cell {S:Nat→Prop}{w w':World}(h:Chg S w w') {a:Addr}{v:Value}(hc:w.cell? a=some v)(hn:¬S a.block):w'.cell? a=some v:=
 (World.cell?_of_block (h.block a.block (World.block_lt_of_cell? w a hc) hn)).trans hc
theorem Chg.frozen {S:Nat→Prop}{w w':World}(h:Chg S w w') {a:Addr}(ha:a.block<w.heap.size)(hn:¬S a.block):w'.frozen? a=w.frozen? a:=
 World.frozen?_of_block (h.block a.block ha hn)
theorem Chg.bytesAt {S:Nat→Prop}{w w':World}(h:Chg S w w') {a:Option Addr}{l:List UInt8}(hb:BytesAt w a l)
  (hn:∀ x,a=some x→¬S x.block):BytesAt w' a l:=
 hb.kept fun b off _ _ ha hc=>h.cell hc (show ¬S b from hn ⟨b,off,none⟩ ha)
def Own (v:Value):Nat→Prop:=fun k=>v.ownBlock=some k
theorem ownsRow_chg {S:Nat→Prop}{w w':World}{e:TypeId}{size:Nat}{v:Value}{n:Nat}{xs:List Value}
  (h:w.ownsRow 0 e size v n xs)(hg:Chg S w w')(hn:∀ k,v.ownBlock=some k→¬S k):w'.ownsRow 0 e size v n xs:=by
 refine⟨h.1,?_⟩
 rcases h.2 with g | ⟨g,cap,cur,rfl,hb,hgg,rest⟩
 ·exact .inl g
 ·refine .inr ⟨g,cap,cur,rfl,hb,?_,rest⟩
  rw[hg.block g (Array.getElem?_eq_some_iff.1 hgg).1 (hn g rfl)]
  exact hgg
theorem ownsRow_lt {w:World}{e:TypeId}{size:Nat}{v:Value}{n:Nat}{xs:List Value}(h:w.ownsRow 0 e size v n xs) :
 ∀ k,v.ownBlock=some k→k<w.heap.size:=fun k hk=>(h.lt k hk).2
def Full:Value→Prop
 | .slice _ n c=>n=c
 | _=>False
structure Grew (w w':World) (v v':Value):Prop where
 chg:Chg (Own v) w w'
 own:∀ k,v'.ownBlock=some k→v.ownBlock=some k∨w.heap.size≤k
 full:Full v→Chg Nil w w'∧(v'=v∨∀ k,v'.ownBlock=some k→w.heap.size≤k)
theorem Grew.refl (w:World) (v:Value):Grew w w v v:=⟨Chg.refl _ _,fun _ h=>.inl h,fun _=>⟨Chg.refl _ _,.inl rfl⟩⟩
structure Source (P:Program) (w:World) (size:Nat) (x:Value) (m:Nat) (news:List Value):Prop where
 len:∀ w':World,(Builtin.lenOf x).run P w' = .ok m w'
 first:∀ w':World,(∀ a,w'.cell? a=w.cell? a)→(Builtin.firstCells size m x).run P w' = .ok news.toArray w'
 length:news.length=m*size
 one:∀ u∈news,u.oneCell'=true
theorem Source.slice {P:Program}{w:World}{size:Nat}{a:Addr}{m c:Nat}{news:List Value}(hl:news.length=m*size)
  (hnews:∀ j u,news[j]? = some u→w.cell? (a.add j)=some u)(h1:∀ u∈news,u.oneCell'=true):Source P w size (.slice (some a) m c) m news:=
 ⟨fun w'=>by simp[Builtin.lenOf],fun w' hw=>run_firstCells_some w' size m a m c news hl (fun j v h=>by rw[hw];exact hnews j v h),hl,h1⟩
theorem Source.nil {P:Program}{w:World}{size c:Nat}:Source P w size (.slice none 0 c) 0 []:=
 ⟨fun w'=>by simp[Builtin.lenOf],fun w' _=>by rw[run_firstCells_none],by simp,by simp⟩
theorem Source.bytes {P:Program}{w:World}{a:Option Addr}{l:List UInt8}{c:Nat}(hb:BytesAt w a l):Source P w 1 (.slice a l.length c) l.length (l.map bval):=by
 rcases a with _ | a
 ·have:l=[]:=by
   cases l with
   | nil=>rfl
   | cons x l=>obtain⟨b,off,h,_⟩:=hb 0 (by simp);cases h
  subst this;exact Source.nil
 ·refine Source.slice (by simp) (fun j u hj=>?_) (by simp[bval,Value.oneCell'])
  rw[List.getElem?_map] at hj
  obtain⟨c,hc,rfl⟩:=Option.map_eq_some_iff.1 hj
  obtain⟨hjl,rfl⟩:=List.getElem?_eq_some_iff.1 hc
  obtain⟨b,off,ha,hcell⟩:=hb j hjl
  obtain rfl:=Option.some.inj ha
  have e:(⟨b,off,none⟩:Addr).add j=⟨b,off+j,none⟩:=by unfold Addr.add;split<;>simp_all
  rw[e];exact hcell
theorem run_append_grew {P:Program} (w:World) (t u ty e:TypeId) (d:TypeDesc) (i:TypeInfo) (z:Value)(ht:P.underlying t=some (.slice e))(hu:P.underlying u=some d)(hd:∀ k,d≠.int k)
  (hi:P.info? e=some i)(hz:i.zero=some z)(hzs:z.cells.size=i.size) (v:Value) (n:Nat) (xs:List Value)(hown:w.ownsRow 0 e i.size v n xs)
  (x:Value) (m:Nat) (news:List Value)(hx:Source P w i.size x m news)(h63:n+m≤maxLen)(hbytes:(n+m)*i.bytes≤140737488355328) :
  ∃ v' w',(Builtin.append_ #[t,u] ty #[v,x]).run P w = .ok v' w'∧w'.ownsRow 0 e i.size v' (n+m) (xs++news)∧Grew w w' v v'∧(v' = .slice none 0 0↔v = .slice none 0 0∧m=0):=by
 have hlen:(xs++news).length=(n+m)*i.size:=by rw[List.length_append,hown.1,hx.length,Nat.add_mul]
 have hlx:=hx.len
 have hfx:=hx.first w (fun _=>rfl)
 have hfd:=hx.first w.drew (fun _=>rfl)
 have hsmall:n+m≤9223372036854775807:=by simp only[maxLen] at h63;omega
 have grown:∀ (old:Nat),old<n+m→
   (w.drew.alloc (.cells (xs.toArray++news.toArray++Builtin.zeroCells z.cells (grownCap w (n+m) old e-(n+m))) e)).ownsRow 0 e i.size
    (.slice (some ⟨w.heap.size,0,none⟩) (n+m) (grownCap w (n+m) old e)) (n+m) (xs++news)∧
   Grew w (w.drew.alloc (.cells (xs.toArray++news.toArray++Builtin.zeroCells z.cells (grownCap w (n+m) old e-(n+m))) e)) v (.slice (some ⟨w.heap.size,0,none⟩) (n+m) (grownCap w (n+m) old e)):=by
  intro old ho;have hge:=grownCap_ge w (n+m) old e
  have hcm:grownCap w (n+m) old e≤maxLen:=grownCap_le_maxLen w (n+m) old e h63
  refine⟨⟨hlen,.inr ⟨w.heap.size,_,_,rfl,Nat.zero_le _,heap_alloc_new w.drew _,hge,hcm,?_,?_⟩⟩,⟨(Chg.refl _ _).drew.alloc _,fun k hk=>.inr ?_,fun _=>⟨(Chg.refl _ _).drew.alloc _,.inr fun k hk=>?_⟩⟩⟩
  ·simp only[Array.size_append,List.size_toArray,size_zeroCells,hzs,hown.1,hx.length,←Nat.add_mul]
   congr 1
   omega
  ·simp only[Array.toList_append,List.append_assoc]
   rw[←List.append_assoc,←hlen];exact List.take_left
  ·simp[Value.ownBlock] at hk
   omega
  ·simp[Value.ownBlock] at hk
   omega
 rcases hown.2 with ⟨rfl,rfl⟩ | ⟨g,cap,cur,rfl,hbg,hg,hnc,hcm,hcs,htake⟩
 ·have hxs:xs=[]:=List.eq_nil_of_length_eq_zero (by simpa using hown.1)
  subst hxs;by_cases hm:m=0
  ·subst hm;have hn:news=[]:=List.eq_nil_of_length_eq_zero (by simpa using hx.length)
   subst hn;refine⟨.slice none 0 0,w,?_,World.ownsRow_nil w 0 e i.size,Grew.refl _ _,by simp⟩
   simp[Builtin.append_,run_underlying ht,run_underlying hu,sizeOf,typeInfo,hi,hlx,hfx]
  ·have h63':¬(9223372036854775807<(m:Int)):=by omega
   have h48':¬(281474976710656<Builtin.nextslicecap m 0*i.bytes):=by
    rw[nextslicecap_zero (by omega)];simp only[Nat.zero_add] at hbytes;omega
   have hgr:=grown 0 (by omega)
   simp only[Nat.zero_add,List.nil_append,Array.empty_append] at hgr ⊢
   refine⟨_,_,?_,hgr.1,hgr.2,by simp[hm]⟩
   simp[Builtin.append_,run_underlying ht,run_underlying hu,sizeOf,typeInfo,zeroValue,hi,hz,hlx,hfd,hm,h63',h48',Question.forced,run_firstCells_none,newRow,grownCap]
 ·by_cases hroom:n+m≤cap
  ·have hfit:n*i.size+news.length≤cur.size:=by rw[hx.length,hcs,←Nat.add_mul];exact Nat.mul_le_mul_right _ hroom
   have hst:=run_storeCells_at P g (n*i.size) e news 0 cur w hg (by simpa using hfit) hx.one
   simp only[Nat.add_zero] at hst
   refine⟨.slice (some ⟨g,0,none⟩) (n+m) cap,w.setRow g (cur.toList.take (n*i.size)++news++cur.toList.drop (n*i.size+news.length)).toArray,?_,
    ⟨hlen,.inr ⟨g,cap,_,rfl,hbg,setRow_heap w g cur _ e _ hg,hroom,hcm,?_,?_⟩⟩,
    ⟨⟨rfl,rfl,rfl,by simp[World.setRow],fun k _ hk=>setRow_other w g k _ (fun e=>hk (by simp[Own,Value.ownBlock,e]))⟩,fun k hk=>.inl hk,fun hf=>?_⟩,by simp⟩
   ·simp[Builtin.append_,run_underlying ht,run_underlying hu,sizeOf,typeInfo,hi,hlx,hroom,hfx,Addr.add_lit,hst]
   ·simp only[List.size_toArray,List.length_append,List.length_take,List.length_drop,Array.length_toList]
    omega
   ·rw[htake,←hlen];exact List.take_left
   ·simp only[Full] at hf
    have hm:m=0:=by omega
    have hn:news=[]:=List.eq_nil_of_length_eq_zero (by rw[hx.length,hm,Nat.zero_mul])
    subst hn;have e1:w.setRow g (cur.toList.take (n*i.size)++[]++cur.toList.drop (n*i.size+([]:List Value).length)).toArray=w:=by
     simp only[List.append_nil,List.length_nil,Nat.add_zero,List.take_append_drop,Array.toArray_toList]
     exact setRow_self w g cur e (0,0) hg
    rw[e1];exact⟨Chg.refl _ _,.inl (by rw[hm,Nat.add_zero])⟩
  ·have holds:∀ j y,xs[j]? = some y→w.cell? ((⟨g,0,none⟩:Addr).add j)=some y:=hown.cells (g:=g) rfl
   have hfo:=run_firstCells_some (P:=P) w.drew i.size n ⟨g,0,none⟩ n cap xs hown.1 (by simpa using holds)
   have h63':¬(9223372036854775807<((n:Int)+(m:Int))):=by omega
   have h48':¬(281474976710656<Builtin.nextslicecap (n+m) cap*i.bytes):=by
    have:=growslice_fits (need:=n+m) (old:=cap) (by omega) hbytes
    omega
   have hgr:=grown cap (by omega)
   refine⟨_,_,?_,hgr.1,hgr.2,by simp⟩
   simp[Builtin.append_,run_underlying ht,run_underlying hu,sizeOf,typeInfo,zeroValue,hi,hz,hlx,hfd,hfo,hroom,h63',h48',Question.forced,newRow,grownCap]
   congr 2
   apply Array.ext'
   simp[List.append_assoc]
end Go.Proofs.YtobegmcbfgnpnaaGreatDoor
