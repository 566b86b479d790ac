/-
  Bytes in memory: a slice of bytes as a list. Over any program.
-/
import Derived.WalkLawsBesides
import Derived.WalkSpells
import Derived.ProofKit
import Derived.Lib.Hide
set_option linter.unusedVariables false
set_option linter.unusedSimpArgs false
set_option maxHeartbeats 0
set_option maxRecDepth 200000
namespace Go.Proofs.YtdjmifaidgbbaaaGreatDoor
open Go.RowKit
def bval (c:UInt8):Value:=.int .u8 (c.toNat:Int)
def BytesAt (w:World) (a:Option Addr) (l:List UInt8):Prop:=
 ∀ i (h:i<l.length),∃ b off,a=some ⟨b,off,none⟩∧w.cell? ⟨b,off+i,none⟩=some (bval l[i])
theorem BytesAt.kept {w w':World}{a:Option Addr}{l:List UInt8}(h:BytesAt w a l)
  (hk:∀ b off i v,a=some ⟨b,off,none⟩→w.cell? ⟨b,off+i,none⟩=some v→w'.cell? ⟨b,off+i,none⟩=some v):BytesAt w' a l:=by
 intro i hi;obtain⟨b,off,ha,hc⟩:=h i hi
 exact⟨b,off,ha,hk b off i _ ha hc⟩
theorem ret_int {k:IntKind}{a b:Int}(h:a=b):Ending.returned (.int k a) = .returned (.int k b):=by rw[h]
theorem take_snoc {α:Type} (l:List α) (k:Nat)(h:k<l.length):l.take (k+1)=l.take k++[l[k]]:=by
 rw[List.take_succ_eq_append_getElem h]
def bytesOf (zs:List Int):List UInt8:=zs.map fun n=>UInt8.ofNat n.toNat
theorem bytesOf_length (zs:List Int):(bytesOf zs).length=zs.length:=by simp[bytesOf]
theorem bval_of {z:Int}(h:(Lit.int .u8 z).wf=true):bval (UInt8.ofNat z.toNat) = .int .u8 z:=by
 have hz:0≤z∧z≤255:=by
  have:=h
  simp[Lit.wf,IntKind.min,IntKind.max,IntKind.signed,IntKind.bits] at this
  omega
 unfold bval;have:((UInt8.ofNat z.toNat).toNat:Int)=z:=by
  rw[UInt8.toNat_ofNat'];omega
 rw[this]
theorem bytesAt_of_ints {w:World}{x:Addr}{zs:List Int}{len:Nat}(hl:len≤zs.length)
  (hcell:∀ i,i<zs.length→w.cell? (x.add i)=some (.int .u8 (zs.getD i 0)))(hwz:∀ n∈zs,(Lit.int .u8 n).wf=true) :
  BytesAt w (some x) ((bytesOf zs).take len):=by
 intro i hi;rw[List.length_take,bytesOf_length] at hi;have h0:=hcell i (by omega)
 obtain⟨b,off,spot⟩:=x
 have hspot:spot=none:=by simpa [Addr.add] using World.cell?_spot (hcell 0 (by omega))
 subst hspot;refine⟨b,off,rfl,?_⟩
 have e:(⟨b,off,none⟩:Addr).add i=⟨b,off+i,none⟩:=by unfold Addr.add;split<;>simp_all
 rw[e] at h0;rw[h0];have hiz:i<zs.length:=by omega
 simp only[List.getElem_take,bytesOf,List.getElem_map,List.getD_eq_getElem?_getD,List.getElem?_eq_getElem hiz,Option.getD_some]
 rw[bval_of (hwz _ (List.getElem_mem hiz))]
structure Chg (S:Nat→Prop) (w w':World):Prop where
 os:w'.os=w.os
 tape:w'.tape=w.tape
 output:w'.output=w.output
 size:w.heap.size≤w'.heap.size
 block:∀ k,k<w.heap.size→¬S k→w'.heap[k]? = w.heap[k]?
def Nil:Nat→Prop:=fun _=>False
theorem Chg.refl (S:Nat→Prop) (w:World):Chg S w w:=⟨rfl,rfl,rfl,Nat.le_refl _,fun _ _ _=>rfl⟩
theorem Chg.trans {S S':Nat→Prop}{a b c:World}(h:Chg S a b) (k:Chg S' b c)(hs:∀ i,S' i→S i∨a.heap.size≤i):Chg S a c:=
 ⟨k.os.trans h.os,k.tape.trans h.tape,k.output.trans h.output,Nat.le_trans h.size k.size,fun i hi hn=>by
  rw[k.block i (Nat.lt_of_lt_of_le hi h.size) (fun g=>(hs i g).elim hn (fun g=>by omega)),h.block i hi hn]⟩
theorem Chg.weak {S S':Nat→Prop}{a b:World}(h:Chg S a b)(hs:∀ i,S i→S' i∨a.heap.size≤i):Chg S' a b:=
 ⟨h.os,h.tape,h.output,h.size,fun i hi hn=>h.block i hi (fun g=>(hs i g).elim hn (fun g=>by omega))⟩
theorem Chg.drew {S:Nat→Prop}{a w:World}(h:Chg S a w):Chg S a w.drew:=⟨h.os,h.tape,h.output,h.size,h.block⟩
theorem Chg.drewN {S:Nat→Prop}{a w:World}(h:Chg S a w) (n:Nat):Chg S a (w.drewN n):=⟨h.os,h.tape,h.output,h.size,h.block⟩
theorem Chg.alloc {S:Nat→Prop}{a w:World}(h:Chg S a w) (o:Obj):Chg S a (w.alloc o):=
 ⟨h.os,h.tape,h.output,Nat.le_trans h.size (by simp),fun i hi hn=>by
  rw[Below.heap_alloc w o i (Nat.lt_of_lt_of_le hi h.size),h.block i hi hn]⟩
theorem Chg.setCell {S:Nat→Prop}{a w:World}(h:Chg S a w) {p:Addr}(hp:S p.block∨a.heap.size≤p.block) (u:Value):Chg S a (w.setCell p u):=
 ⟨h.os,h.tape,h.output,by have:=h.size;simpa [World.setCell] using this,fun i hi hn=>by
  rw[Below.heap_setCell _ _ _ _ (fun e=>by subst e;exact hp.elim hn (fun g=>by omega)),h.block i hi hn]⟩
theorem Chg.below {S:Nat→Prop}{w w':World}(h:Chg S w w')(hs:∀ i,i<w.heap.size→¬S i):Below w.heap.size w w':=
 ⟨h.os,h.tape,h.output,h.size,fun k hk=>h.block k hk (hs k hk)⟩
theorem Chg.of_below {w w':World}(h:Below w.heap.size w w') (S:Nat→Prop):Chg S w w':=
 ⟨h.os,h.tape,h.output,h.size,fun k hk _=>h.block k hk⟩
theorem Chg.cell {S:Nat→Prop}{w w':World}(h:Chg S w w') {a:Addr}{v:Value}(hc:w.cell? a=some v)(hn:¬S a.block):w'.cell? a=some v:=
 (World.cell?_of_block (h.block a.block (World.block_lt_of_cell? w a hc) hn)).trans hc
theorem Chg.frozen {S:Nat→Prop}{w w':World}(h:Chg S w w') {a:Addr}(ha:a.block<w.heap.size)(hn:¬S a.block):w'.frozen? a=w.frozen? a:=
 World.frozen?_of_block (h.block a.block ha hn)
theorem Chg.bytesAt {S:Nat→Prop}{w w':World}(h:Chg S w w') {a:Option Addr}{l:List UInt8}(hb:BytesAt w a l)
  (hn:∀ x,a=some x→¬S x.block):BytesAt w' a l:=
 hb.kept fun b off _ _ ha hc=>h.cell hc (show ¬S b from hn ⟨b,off,none⟩ ha)
def Own (v:Value):Nat→Prop:=fun k=>v.ownBlock=some k
theorem ownsRow_chg {S:Nat→Prop}{w w':World}{e:TypeId}{size:Nat}{v:Value}{n:Nat}{xs:List Value}
  (h:w.ownsRow 0 e size v n xs)(hg:Chg S w w')(hn:∀ k,v.ownBlock=some k→¬S k):w'.ownsRow 0 e size v n xs:=by
 refine⟨h.1,?_⟩
 rcases h.2 with g | ⟨g,cap,cur,rfl,hb,hgg,rest⟩
 ·exact .inl g
 ·refine .inr ⟨g,cap,cur,rfl,hb,?_,rest⟩
  rw[hg.block g (Array.getElem?_eq_some_iff.1 hgg).1 (hn g rfl)]
  exact hgg
theorem ownsRow_lt {w:World}{e:TypeId}{size:Nat}{v:Value}{n:Nat}{xs:List Value}(h:w.ownsRow 0 e size v n xs) :
 ∀ k,v.ownBlock=some k→k<w.heap.size:=fun k hk=>(h.lt k hk).2
def Full:Value→Prop
 | .slice _ n c=>n=c
 | _=>False
structure Grew (w w':World) (v v':Value):Prop where
 chg:Chg (Own v) w w'
 own:∀ k,v'.ownBlock=some k→v.ownBlock=some k∨w.heap.size≤k
 full:Full v→Chg Nil w w'∧(v'=v∨∀ k,v'.ownBlock=some k→w.heap.size≤k)
theorem Grew.refl (w:World) (v:Value):Grew w w v v:=⟨Chg.refl _ _,fun _ h=>.inl h,fun _=>⟨Chg.refl _ _,.inl rfl⟩⟩
theorem Grew.trans {a b c:World}{u v x:Value}(h:Grew a b u v) (k:Grew b c v x):Grew a c u x:=
 ⟨h.chg.trans k.chg fun i hi=>h.own i hi,fun i hi=>by
  rcases k.own i hi with g | g
  ·exact h.own i g
  ·exact .inr (Nat.le_trans h.chg.size g),fun hf=>by
  obtain⟨h1,h2⟩:=h.full hf
  rcases h2 with rfl | h2
  ·obtain⟨k1,k2⟩:=k.full hf
   exact⟨h1.trans k1 (fun _ h=>h.elim),k2.imp id fun k2 i hi=>Nat.le_trans h.chg.size (k2 i hi)⟩
  ·refine⟨h1.trans k.chg (fun i hi=>.inr (h2 i hi)),.inr fun i hi=>?_⟩
   rcases k.own i hi with g | g
   ·exact h2 i g
   ·exact Nat.le_trans h.chg.size g⟩
theorem Grew.alloc {w w':World}{o:Obj}{v v':Value}(h:Grew (w.alloc o) w' v v'):Grew w w' v v':=
 have hs:w.heap.size≤(w.alloc o).heap.size:=by simp
 ⟨((Chg.refl _ _).alloc _).trans h.chg (fun _ hi=>.inl hi),fun i hi=>(h.own i hi).imp id (Nat.le_trans hs),fun hf=>
  ⟨((Chg.refl _ _).alloc _).trans (h.full hf).1 (fun _ hi=>.inl hi),(h.full hf).2.imp id fun k i hi=>Nat.le_trans hs (k i hi)⟩⟩
structure Source (P:Program) (w:World) (size:Nat) (x:Value) (m:Nat) (news:List Value):Prop where
 len:∀ w':World,(Builtin.lenOf x).run P w' = .ok m w'
 first:∀ w':World,(∀ a,w'.cell? a=w.cell? a)→(Builtin.firstCells size m x).run P w' = .ok news.toArray w'
 length:news.length=m*size
 one:∀ u∈news,u.oneCell'=true
theorem Source.slice {P:Program}{w:World}{size:Nat}{a:Addr}{m c:Nat}{news:List Value}(hl:news.length=m*size)
  (hnews:∀ j u,news[j]? = some u→w.cell? (a.add j)=some u)(h1:∀ u∈news,u.oneCell'=true):Source P w size (.slice (some a) m c) m news:=
 ⟨fun w'=>by simp[Builtin.lenOf],fun w' hw=>run_firstCells_some w' size m a m c news hl (fun j v h=>by rw[hw];exact hnews j v h),hl,h1⟩
theorem Source.nil {P:Program}{w:World}{size c:Nat}:Source P w size (.slice none 0 c) 0 []:=
 ⟨fun w'=>by simp[Builtin.lenOf],fun w' _=>by rw[run_firstCells_none],by simp,by simp⟩
theorem Source.string {P:Program}{w:World} (s:ByteArray):Source P w 1 (.string s) s.size (s.data.toList.map bval):=
 ⟨fun w'=>by simp[Builtin.lenOf],fun w' _=>by
  have hx:s.extract 0 s.size=s:=by simp
  have ha:s.data.map (fun b=>Value.int .u8 b.toNat)=(s.data.toList.map bval).toArray:=by
   apply Array.ext'
   simp[bval]
  simp only[Builtin.firstCells,hx,ha]
  rw[Sem.run_pure],by rw[List.length_map,Nat.mul_one];rfl,by simp[bval,Value.oneCell']⟩
theorem Source.bytes {P:Program}{w:World}{a:Option Addr}{l:List UInt8}{c:Nat}(hb:BytesAt w a l):Source P w 1 (.slice a l.length c) l.length (l.map bval):=by
 rcases a with _ | a
 ·have:l=[]:=by
   cases l with
   | nil=>rfl
   | cons x l=>obtain⟨b,off,h,_⟩:=hb 0 (by simp);cases h
  subst this;exact Source.nil
 ·refine Source.slice (by simp) (fun j u hj=>?_) (by simp[bval,Value.oneCell'])
  rw[List.getElem?_map] at hj
  obtain⟨c,hc,rfl⟩:=Option.map_eq_some_iff.1 hj
  obtain⟨hjl,rfl⟩:=List.getElem?_eq_some_iff.1 hc
  obtain⟨b,off,ha,hcell⟩:=hb j hjl
  obtain rfl:=Option.some.inj ha
  have e:(⟨b,off,none⟩:Addr).add j=⟨b,off+j,none⟩:=by unfold Addr.add;split<;>simp_all
  rw[e];exact hcell
theorem run_append_grew {P:Program} (w:World) (t u ty e:TypeId) (d:TypeDesc) (i:TypeInfo) (z:Value)(ht:P.underlying t=some (.slice e))(hu:P.underlying u=some d)(hd:∀ k,d≠.int k)
  (hi:P.info? e=some i)(hz:i.zero=some z)(hzs:z.cells.size=i.size) (v:Value) (n:Nat) (xs:List Value)(hown:w.ownsRow 0 e i.size v n xs)
  (x:Value) (m:Nat) (news:List Value)(hx:Source P w i.size x m news)(h63:n+m≤maxLen)(hbytes:(n+m)*i.bytes≤140737488355328) :
  ∃ v' w',(Builtin.append_ #[t,u] ty #[v,x]).run P w = .ok v' w'∧w'.ownsRow 0 e i.size v' (n+m) (xs++news)∧Grew w w' v v'∧(v' = .slice none 0 0↔v = .slice none 0 0∧m=0):=by
 have hlen:(xs++news).length=(n+m)*i.size:=by rw[List.length_append,hown.1,hx.length,Nat.add_mul]
 have hlx:=hx.len
 have hfx:=hx.first w (fun _=>rfl)
 have hfd:=hx.first w.drew (fun _=>rfl)
 have hsmall:n+m≤9223372036854775807:=by simp only[maxLen] at h63;omega
 have grown:∀ (old:Nat),old<n+m→
   (w.drew.alloc (.cells (xs.toArray++news.toArray++Builtin.zeroCells z.cells (grownCap w (n+m) old e-(n+m))) e)).ownsRow 0 e i.size
    (.slice (some ⟨w.heap.size,0,none⟩) (n+m) (grownCap w (n+m) old e)) (n+m) (xs++news)∧
   Grew w (w.drew.alloc (.cells (xs.toArray++news.toArray++Builtin.zeroCells z.cells (grownCap w (n+m) old e-(n+m))) e)) v (.slice (some ⟨w.heap.size,0,none⟩) (n+m) (grownCap w (n+m) old e)):=by
  intro old ho;have hge:=grownCap_ge w (n+m) old e
  have hcm:grownCap w (n+m) old e≤maxLen:=grownCap_le_maxLen w (n+m) old e h63
  refine⟨⟨hlen,.inr ⟨w.heap.size,_,_,rfl,Nat.zero_le _,heap_alloc_new w.drew _,hge,hcm,?_,?_⟩⟩,⟨(Chg.refl _ _).drew.alloc _,fun k hk=>.inr ?_,fun _=>⟨(Chg.refl _ _).drew.alloc _,.inr fun k hk=>?_⟩⟩⟩
  ·simp only[Array.size_append,List.size_toArray,size_zeroCells,hzs,hown.1,hx.length,←Nat.add_mul]
   congr 1
   omega
  ·simp only[Array.toList_append,List.append_assoc]
   rw[←List.append_assoc,←hlen];exact List.take_left
  ·simp[Value.ownBlock] at hk
   omega
  ·simp[Value.ownBlock] at hk
   omega
 rcases hown.2 with ⟨rfl,rfl⟩ | ⟨g,cap,cur,rfl,hbg,hg,hnc,hcm,hcs,htake⟩
 ·have hxs:xs=[]:=List.eq_nil_of_length_eq_zero (by simpa using hown.1)
  subst hxs;by_cases hm:m=0
  ·subst hm;have hn:news=[]:=List.eq_nil_of_length_eq_zero (by simpa using hx.length)
   subst hn;refine⟨.slice none 0 0,w,?_,World.ownsRow_nil w 0 e i.size,Grew.refl _ _,by simp⟩
   simp[Builtin.append_,run_underlying ht,run_underlying hu,sizeOf,typeInfo,hi,hlx,hfx]
  ·have h63':¬(9223372036854775807<(m:Int)):=by omega
   have h48':¬(281474976710656<Builtin.nextslicecap m 0*i.bytes):=by
    rw[nextslicecap_zero (by omega)];simp only[Nat.zero_add] at hbytes;omega
   have hgr:=grown 0 (by omega)
   simp only[Nat.zero_add,List.nil_append,Array.empty_append] at hgr ⊢
   refine⟨_,_,?_,hgr.1,hgr.2,by simp[hm]⟩
   simp[Builtin.append_,run_underlying ht,run_underlying hu,sizeOf,typeInfo,zeroValue,hi,hz,hlx,hfd,hm,h63',h48',Question.forced,run_firstCells_none,newRow,grownCap]
 ·by_cases hroom:n+m≤cap
  ·have hfit:n*i.size+news.length≤cur.size:=by rw[hx.length,hcs,←Nat.add_mul];exact Nat.mul_le_mul_right _ hroom
   have hst:=run_storeCells_at P g (n*i.size) e news 0 cur w hg (by simpa using hfit) hx.one
   simp only[Nat.add_zero] at hst
   refine⟨.slice (some ⟨g,0,none⟩) (n+m) cap,w.setRow g (cur.toList.take (n*i.size)++news++cur.toList.drop (n*i.size+news.length)).toArray,?_,
    ⟨hlen,.inr ⟨g,cap,_,rfl,hbg,setRow_heap w g cur _ e _ hg,hroom,hcm,?_,?_⟩⟩,
    ⟨⟨rfl,rfl,rfl,by simp[World.setRow],fun k _ hk=>setRow_other w g k _ (fun e=>hk (by simp[Own,Value.ownBlock,e]))⟩,fun k hk=>.inl hk,fun hf=>?_⟩,by simp⟩
   ·simp[Builtin.append_,run_underlying ht,run_underlying hu,sizeOf,typeInfo,hi,hlx,hroom,hfx,Addr.add_lit,hst]
   ·simp only[List.size_toArray,List.length_append,List.length_take,List.length_drop,Array.length_toList]
    omega
   ·rw[htake,←hlen];exact List.take_left
   ·simp only[Full] at hf
    have hm:m=0:=by omega
    have hn:news=[]:=List.eq_nil_of_length_eq_zero (by rw[hx.length,hm,Nat.zero_mul])
    subst hn;have e1:w.setRow g (cur.toList.take (n*i.size)++[]++cur.toList.drop (n*i.size+([]:List Value).length)).toArray=w:=by
     simp only[List.append_nil,List.length_nil,Nat.add_zero,List.take_append_drop,Array.toArray_toList]
     exact setRow_self w g cur e (0,0) hg
    rw[e1];exact⟨Chg.refl _ _,.inl (by rw[hm,Nat.add_zero])⟩
  ·have holds:∀ j y,xs[j]? = some y→w.cell? ((⟨g,0,none⟩:Addr).add j)=some y:=hown.cells (g:=g) rfl
   have hfo:=run_firstCells_some (P:=P) w.drew i.size n ⟨g,0,none⟩ n cap xs hown.1 (by simpa using holds)
   have h63':¬(9223372036854775807<((n:Int)+(m:Int))):=by omega
   have h48':¬(281474976710656<Builtin.nextslicecap (n+m) cap*i.bytes):=by
    have:=growslice_fits (need:=n+m) (old:=cap) (by omega) hbytes
    omega
   have hgr:=grown cap (by omega)
   refine⟨_,_,?_,hgr.1,hgr.2,by simp⟩
   simp[Builtin.append_,run_underlying ht,run_underlying hu,sizeOf,typeInfo,zeroValue,hi,hz,hlx,hfd,hfo,hroom,h63',h48',Question.forced,newRow,grownCap]
   congr 2
   apply Array.ext'
   simp[List.append_assoc]
structure SliceT (P:Program) (t e:TypeId) (size bytes:Nat):Prop where
 ht:P.underlying t=some (.slice e)
 info:∃ i z,P.info? e=some i∧i.zero=some z∧z.cells.size=size∧i.size=size∧i.bytes=bytes
theorem wp_append_grew {P:Program}{o:Oper}{a:Act}{w:World}{K:Act→World→Prop}{Q:Exit→Act→World→Prop} (s x:Operand) (t u:TypeId)
  (ho:o.op = .call { callee:=.builtin .append,args:=#[s,x],argTypes:=#[t,u] })
  {e:TypeId}{size bytes:Nat}(hT:SliceT P t e size bytes) (d:TypeDesc)(hu:P.underlying u=some d)(hd:∀ k,d≠.int k)
  (v:Value) (n:Nat) (xs:List Value)(hs:a.eval s=v)(hown:w.ownsRow 0 e size v n xs)
  (xv:Value) (m:Nat) (news:List Value)(hx:a.eval x=xv)(hsrc:Source P w size xv m news)
  (h63:n+m≤maxLen)(hbytes:(n+m)*bytes≤140737488355328)
  (h:∀ v' w',w'.ownsRow 0 e size v' (n+m) (xs++news)→Grew w w' v v'→(v' = .slice none 0 0↔v = .slice none 0 0∧m=0)→K (a.put o.dst v') w'):o.wp P a w K Q:=by
 obtain⟨ht,i,z,hi,hz,hzs,rfl,rfl⟩:=hT
 obtain⟨v',w',hr,h2,h3,h4⟩:=run_append_grew (P:=P) w t u o.type e d i z ht hu hd hi hz hzs v n xs hown xv m news hsrc h63 hbytes
 unfold Oper.wp execOp;simp only[ho,resolve,invoke,builtin,Sem.run_bind,Sem.run_pure,Result.andThen_ok,List.map_toArray,List.map_cons,List.map_nil,hs,hx,hr]
 exact h v' w' h2 h3 h4
theorem wpList_append_grew {P:Program}{ops:Array Oper}{rest:List Oper}{o:Oper}{a:Act}{w:World}{Q:Exit→Act→World→Prop}(hgd:o.guard=none) (s x:Operand) (t u:TypeId)
  (ho:o.op = .call { callee:=.builtin .append,args:=#[s,x],argTypes:=#[t,u] })
  {e:TypeId}{size bytes:Nat}(hT:SliceT P t e size bytes) (d:TypeDesc)(hu:P.underlying u=some d)(hd:∀ k,d≠.int k)
  (v:Value) (n:Nat) (xs:List Value)(hs:a.eval s=v)(hown:w.ownsRow 0 e size v n xs)
  (xv:Value) (m:Nat) (news:List Value)(hx:a.eval x=xv)(hsrc:Source P w size xv m news)
  (h63:n+m≤maxLen)(hbytes:(n+m)*bytes≤140737488355328)
  (h:∀ v' w',w'.ownsRow 0 e size v' (n+m) (xs++news)→Grew w w' v v'→(v' = .slice none 0 0↔v = .slice none 0 0∧m=0)→wpList P ops Q rest (a.put o.dst v') w'):wpList P ops Q (o::rest) a w:=
 wpList_plain hgd fun _ hK=>wp_append_grew s x t u ho hT d hu hd v n xs hs hown xv m news hx hsrc h63 hbytes fun v' w' h2 h3 h4=>hK _ _ (h v' w' h2 h3 h4)
def OwnB (e:TypeId) (w:World) (v:Value) (l:List UInt8):Prop:=w.ownsRow 0 e 1 v l.length (l.map bval)
theorem OwnB.made {e:TypeId}{w:World}{g cap:Nat}{cur:Array Value}{l:List UInt8}(hg:w.heap[g]? = some (.cells cur e (0,0)))(hc:cur.size=cap)
  (hl:l.length≤cap)(hm:cap≤maxLen)(h:cur.toList.take l.length=l.map bval):OwnB e w (.slice (some ⟨g,0,none⟩) l.length cap) l:=
 ⟨by simp,.inr ⟨g,cap,cur,rfl,Nat.zero_le _,hg,hl,hm,by rw[hc,Nat.mul_one],by rw[Nat.mul_one];exact h⟩⟩
theorem OwnB.new {e:TypeId}{w:World}{l:List UInt8}(h:l.length≤maxLen) :
  OwnB e (w.alloc (.cells (l.map bval).toArray e)) (.slice (some ⟨w.heap.size,0,none⟩) l.length l.length) l:=
 OwnB.made (heap_alloc_new w _) (by simp) (Nat.le_refl _) h (by rw[List.take_of_length_le (by simp)])
theorem OwnB.chg {e:TypeId}{S:Nat→Prop}{w w':World}{v:Value}{l:List UInt8}(h:OwnB e w v l)(hg:Chg S w w')(hn:∀ k,v.ownBlock=some k→¬S k):OwnB e w' v l:=
 ownsRow_chg h hg hn
theorem OwnB.alloc {e:TypeId}{w:World}{v:Value}{l:List UInt8}(h:OwnB e w v l) (o:Obj):OwnB e (w.alloc o) v l:=
 h.chg ((Chg.refl Nil w).alloc o) (fun _ _ h=>h)
theorem OwnB.drewN {e:TypeId}{w:World}{v:Value}{l:List UInt8}(h:OwnB e w v l) (n:Nat):OwnB e (w.drewN n) v l:=
 h.chg ((Chg.refl Nil w).drewN n) (fun _ _ h=>h)
theorem OwnB.lt {e:TypeId}{w:World}{v:Value}{l:List UInt8}(h:OwnB e w v l):∀ k,v.ownBlock=some k→k<w.heap.size:=ownsRow_lt h
theorem OwnB.val {e:TypeId}{w:World}{v:Value}{l:List UInt8}(h:OwnB e w v l) :
  ∃ a cap,v = .slice a l.length cap∧BytesAt w a l∧l.length≤maxLen∧(∀ x,a=some x→v.ownBlock=some x.block):=by
 rcases h.2 with ⟨rfl,hn⟩ | ⟨g,cap,cur,rfl,_,hg,hnc,hcm,hcs,htake⟩
 ·have hl:l=[]:=List.eq_nil_of_length_eq_zero hn
  subst hl;exact⟨none,0,rfl,fun i hi=>absurd hi (Nat.not_lt_zero _),Nat.zero_le _,fun x hx=>by cases hx⟩
 ·refine⟨_,cap,rfl,fun i hi=>⟨g,0,rfl,?_⟩,Nat.le_trans hnc hcm,fun x hx=>by cases hx;rfl⟩
  rw[Nat.zero_add,cell_of_row w g i cur e (0,0) hg]
  rw[Nat.mul_one] at htake;have h1:(cur.toList.take l.length)[i]? = (l.map bval)[i]?:=by rw[htake]
  rw[List.getElem?_take,if_pos hi,List.getElem?_map,List.getElem?_eq_getElem hi] at h1
  simpa using h1
theorem wpList_append_bytes {P:Program}{ops:Array Oper}{rest:List Oper}{o:Oper}{a:Act}{w:World}{Q:Exit→Act→World→Prop}(hgd:o.guard=none) (s x:Operand) (t u:TypeId)
  (ho:o.op = .call { callee:=.builtin .append,args:=#[s,x],argTypes:=#[t,u] })
  {e:TypeId}(hT:SliceT P t e 1 1) (d:TypeDesc)(hu:P.underlying u=some d)(hd:∀ k,d≠.int k)
  (v:Value) (l:List UInt8)(hs:a.eval s=v)(hown:OwnB e w v l)
  (xv:Value) (m:List UInt8)(hx:a.eval x=xv)(hsrc:Source P w 1 xv m.length (m.map bval))
  (hb:l.length+m.length≤140737488355328)
  (h:∀ v' w',OwnB e w' v' (l++m)→Grew w w' v v'→(v' = .slice none 0 0↔v = .slice none 0 0∧m.length=0)→wpList P ops Q rest (a.put o.dst v') w'):wpList P ops Q (o::rest) a w:=
 wpList_append_grew hgd s x t u ho hT d hu hd v l.length (l.map bval) hs hown xv m.length (m.map bval) hx hsrc (by unfold maxLen;omega) (by omega) fun v' w' h2 h3 h4=>
  h v' w' (by unfold OwnB;rw[List.length_append,List.map_append];exact h2) h3 h4
theorem conv_bytes {P:Program}{w:World}{a:Option Addr}{l:List UInt8}{src dst e:TypeId}(hs:P.underlying src=some (.slice e))(he:P.underlying e=some (.int .u8))(hd:P.underlying dst=some .string)
  (hb:BytesAt w a l) (cap:Nat):(convert src dst (.slice a l.length cap)).run P w = .ok (.string ⟨l.toArray⟩) w:=by
 rcases a with _ | a
 ·have:l=[]:=by
   cases l with
   | nil=>rfl
   | cons x l=>obtain⟨b,off,h,_⟩:=hb 0 (by simp);cases h
  subst this;exact run_convert_bytes_nil w src e hs he 0 cap dst hd
 ·refine run_convert_bytes_back w src dst e a cap l hs he hd fun j hj=>?_
  obtain⟨b,off,ha,hc⟩:=hb j hj
  obtain rfl:=Option.some.inj ha
  have e1:(⟨b,off,none⟩:Addr).add j=⟨b,off+j,none⟩:=by unfold Addr.add;split<;>simp_all
  rw[e1];exact hc
theorem Source.one_new {P:Program}{w:World}{e:TypeId} (c:UInt8) {k:Nat}{x:Value}(hx:x=bval c):Source P (w.alloc (.cells #[x] e)) 1 (.slice (some ⟨w.heap.size,0,none⟩) 1 k) [c].length ([c].map bval):=by
 subst hx;exact Source.slice (by simp) (fun j u hj=>by
  cases j with
  | zero=>
   simp at hj
   subst hj;have e1:(⟨w.heap.size,0,none⟩:Addr).add 0=⟨w.heap.size,0,none⟩:=rfl
   rw[e1,cell_of_row _ w.heap.size 0 #[bval c] e (0,0) (heap_alloc_new w _)]
   rfl
  | succ j=>simp at hj) (by simp[bval,Value.oneCell'])
theorem bval_nat {n:Nat}(h:n<256):bval (UInt8.ofNat n) = .int .u8 (n:Int):=by
 unfold bval;rw[UInt8.toNat_ofNat'];congr 1
 omega
end Go.Proofs.YtdjmifaidgbbaaaGreatDoor
