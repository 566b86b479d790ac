/-
  A log in order on its disk, plain; Flush, a new segment and Add where the disk does not fail. (Of the logs' seat.)
-/
import Derived.Test.YtdjmifaidgbbaaaGreatDoorT21
set_option linter.unusedVariables false
set_option linter.unusedSimpArgs false
set_option maxHeartbeats 0
set_option maxRecDepth 200000
namespace Go.Proofs.YtdjmifaidgbbaaaGreatDoor
open Go.RowKit Go.Lib
def Dk.has (d:Dk) (x:Nm) (l:List UInt8):Prop:=∃ sf,d.find x=some ⟨l,sf⟩
theorem lookup_turn (x y:Nm) (f:Fl):∀ fs:List (Nm×Fl),(fs.map fun p=>if p.1=x then (p.1,f) else p).lookup y=if y=x then (fs.lookup y).map (fun _=>f) else fs.lookup y
 | []=>by simp
 | (a,c)::r=>by
  have ih:=lookup_turn x y f r
  rw[List.map_cons];by_cases hax:a=x
  ·subst hax;simp only[if_true,List.lookup_cons]
   by_cases hy:y=a
   ·subst hy;simp
   ·have hb:(y==a)=false:=beq_eq_false_iff_ne.2 hy
    simp only[hb,if_neg hy] at ih ⊢
    exact ih
  ·rw[if_neg hax]
   simp only[List.lookup_cons]
   by_cases hy:y=a
   ·subst hy;simp[hax]
   ·have hb:(y==a)=false:=beq_eq_false_iff_ne.2 hy
    simp only[hb]
    exact ih
theorem find_turn (d:Dk) (x y:Nm) (f:Fl):(d.turn x f).find y=if y=x then (d.find y).map (fun _=>f) else d.find y:=lookup_turn x y f d.fs
theorem find_put (d:Dk) (x y:Nm) (f:Fl):(d.put x f).find y=if y=x then some f else d.find y:=lookup_put x y f d.fs
theorem find_del (d:Dk) (x y:Nm):(d.del x).find y=if y=x then none else d.find y:=lookup_filter x y d.fs
theorem Dk.has.turned {d:Dk}{x:Nm}{l m:List UInt8}(h:d.has x l) (sf:Nat):(d.turn x ⟨m,sf⟩).has x m:=by
 obtain⟨s,hs⟩:=h
 exact⟨sf,by rw[find_turn,if_pos rfl,hs];rfl⟩
theorem segName_inj {dir:List UInt8}{a b:Nat}(ha:a≤1099511627776)(hb:b≤1099511627776)(h:segName dir a=segName dir b):a=b:=by
 have h1:=prog_hit dir ha
 rw[h,prog_hit dir hb] at h1
 omega
def lined:List SgB→Prop
 | []=>True
 | [_]=>True
 | x::y::r=>y.1.base=x.1.next∧x.2≠[]∧lined (y::r)
structure SgIn (d:Dk) (dir:List UInt8) (x:SgB):Prop where
 of:SgOf x.1 x.2
 nm:x.1.name=segName dir x.1.base.toNat
 lo:0≤x.1.base
 hi:x.1.base≤1099511627776
 fl:d.has x.1.name (batBs x.2)
theorem lastEnd_gt {n:Int}{l:List Bt}(hok:∀ b∈l,b.Ok)(hup:rising n l)(hne:l≠[]):n<lastEnd n l:=by
 obtain⟨b,r,rfl⟩:=List.exists_cons_of_ne_nil hne
 have h1:=(lastEnd_le hok hup).2 b (List.mem_cons_self ..)
 have h2:=(hok b (List.mem_cons_self ..)).nums.lt
 have:=hup.1
 omega
theorem SgOf.lt_next {g:Sg}{l:List Bt}(h:SgOf g l)(hne:l≠[]):g.base<g.next:=by rw[h.next];exact lastEnd_gt h.ok h.up hne
theorem lined_up:∀ {xs:List SgB}{n:Int},(∀ x∈xs,SgOf x.1 x.2)→lined xs→(∀ x,xs.head? = some x→n≤x.1.base)→chainUp n xs
 | [],_,_,_,_=>trivial
 | [x],n,h,_,h0=>⟨h0 x rfl,trivial⟩
 | x::y::r,n,h,hl,h0=>by
  refine⟨h0 x rfl,lined_up (fun z hz=>h z (List.mem_cons_of_mem _ hz)) hl.2.2 (fun z hz=>?_)⟩
  have hz:y=z:=Option.some.inj hz
  subst hz;have:=(h x (List.mem_cons_self ..)).lt_next hl.2.1
  rw[hl.1];omega
structure LgOk (d:Dk) (g:Lg) (xs:List SgB):Prop where
 segs:g.segs=xs.map (·.1)
 ne:xs≠[]
 each:∀ x∈xs,SgIn d g.dir x
 line:lined xs
 only:∀ n:Nat,n≤1099511627776→(d.find (segName g.dir n)).isSome=true→∃ x∈xs,x.1.base=n
 kn:∀ n:Nat,n≤1099511627776→dkName (segName g.dir n)=true
 ok:d.Ok
 lo:∀ x,xs.head? = some x→x.1.base≤g.start
 hi:g.start≤g.stop
theorem LgOk.len {d:Dk}{g:Lg}{xs:List SgB}(h:LgOk d g xs):g.segs.length=xs.length:=by rw[h.segs,List.length_map]
theorem LgOk.pos {d:Dk}{g:Lg}{xs:List SgB}(h:LgOk d g xs):0<xs.length:=List.length_pos_iff.2 h.ne
theorem LgOk.lastAt {d:Dk}{g:Lg}{xs:List SgB}(h:LgOk d g xs):∃ ys x,xs=ys++[x]∧g.last=x.1∧g.segs=ys.map (·.1)++[x.1]:=by
 rcases List.eq_nil_or_concat xs with h0 | ⟨ys,x,h0⟩
 ·exact absurd h0 h.ne
 ·rw[List.concat_eq_append] at h0;refine⟨ys,x,h0,?_,by rw[h.segs,h0];simp⟩
  unfold Lg.last;rw[h.segs,h0];simp
theorem lined_snoc:∀ {ys:List SgB}{x y:SgB},lined (ys++[x])→y.1.base=x.1.next→x.2≠[]→lined (ys++[x]++[y])
 | [],x,y,_,h1,h2=>⟨h1,h2,trivial⟩
 | [a],x,y,h,h1,h2=>⟨h.1,h.2.1,h1,h2,trivial⟩
 | a::b::r,x,y,h,h1,h2=>⟨h.1,h.2.1,lined_snoc (ys:=b::r) h.2.2 h1 h2⟩
theorem lined_last:∀ {ys:List SgB}{x y:SgB},lined (ys++[x])→y.1.base=x.1.base→lined (ys++[y])
 | [],x,y,_,_=>trivial
 | [a],x,y,h,h1=>⟨by rw[h1];exact h.1,h.2.1,trivial⟩
 | a::b::r,x,y,h,h1=>⟨h.1,h.2.1,lined_last (ys:=b::r) h.2.2 h1⟩
theorem lined_before:∀ {ys:List SgB}{x:SgB},(∀ z∈ys++[x],SgOf z.1 z.2)→lined (ys++[x])→∀ y∈ys,y.1.next≤x.1.base∧y.1.base<x.1.base
 | [],x,_,_,y,hy=>by cases hy
 | [a],x,hof,h,y,hy=>by
  rw[List.mem_singleton.1 hy]
  have:=(hof a (by simp)).lt_next h.2.1
  have:=h.1
  omega
 | a::b::r,x,hof,h,y,hy=>by
  have ih:=lined_before (ys:=b::r) (x:=x) (fun z hz=>hof z (List.mem_cons_of_mem _ hz)) h.2.2
  rcases List.mem_cons.1 hy with rfl | hy
  ·have h1:=(hof y (by simp)).lt_next h.2.1
   have h2:=(ih b (List.mem_cons_self ..)).2
   have h3:b.1.base=y.1.next:=h.1
   omega
  ·exact ih y hy
theorem LgOk.of {d:Dk}{g:Lg}{xs:List SgB}(h:LgOk d g xs):∀ x∈xs,SgOf x.1 x.2:=fun x hx=>(h.each x hx).of
theorem LgOk.up {d:Dk}{g:Lg}{xs:List SgB}(h:LgOk d g xs):chainUp 0 xs:=lined_up h.of h.line (fun x hx=>(h.each x (List.mem_of_mem_head? hx)).lo)
theorem LgOk.bts {d:Dk}{g:Lg}{xs:List SgB}(h:LgOk d g xs):rising 0 (allBts xs)∧∀ b∈allBts xs,b.Ok:=chainUp_rising h.of h.up
theorem SgIn.stop {d:Dk}{dir:List UInt8}{x:SgB}(h:SgIn d dir x):0≤x.1.next∧x.1.next≤1099511627776:=by
 have h1:=h.of.base_next
 have h2:=h.lo
 refine⟨by omega,?_⟩
 rcases List.eq_nil_or_concat x.2 with h0 | ⟨m,b,h0⟩
 ·have h3:=h.of.next
  rw[h0] at h3;have h3:x.1.next=x.1.base:=h3
  have:=h.hi
  omega
 ·rw[List.concat_eq_append] at h0;have h3:=h.of.next
  rw[h0,lastEnd_snoc] at h3;have:=(h.of.ok b (by rw[h0];simp)).nums.hi
  omega
theorem LgOk.stopAt {d:Dk}{g:Lg}{xs:List SgB}(h:LgOk d g xs):0≤g.stop∧g.stop≤1099511627776:=by
 obtain⟨ys,x,hx,hl,_⟩:=h.lastAt
 unfold Lg.stop;rw[hl];exact (h.each x (by rw[hx];simp)).stop
theorem LgOk.names {d:Dk}{g:Lg}{ys:List SgB}{x:SgB}(h:LgOk d g (ys++[x])):∀ y∈ys,y.1.name≠x.1.name:=fun y hy e=>by
 have hy':=h.each y (by simp[hy])
 have hx':=h.each x (by simp)
 rw[hy'.nm,hx'.nm] at e;have h1:=segName_inj (by have:=hy'.hi;omega) (by have:=hx'.hi;omega) e
 have h2:=(lined_before h.of h.line y hy).2
 have:=hy'.lo
 have:=hx'.lo
 omega
theorem SgIn.other {d d':Dk}{dir:List UInt8}{x:SgB}(h:SgIn d dir x)(hf:d'.find x.1.name=d.find x.1.name):SgIn d' dir x:=
 ⟨h.of,h.nm,h.lo,h.hi,by obtain⟨s,hs⟩:=h.fl;exact⟨s,by rw[hf];exact hs⟩⟩
structure DkOn (d d':Dk):Prop where
 left:d'.left = -1
 room:d'.room=d.room
theorem flush_ok {d:Dk}{g:Lg}{xs:List SgB}(h:LgOk d g xs)(hl:d.left = -1)(hd:g.down=false) :
  ∃ d',flushLg d g=(0,d',{ g with safe:=g.stop })∧LgOk d' { g with safe:=g.stop } xs∧DkOn d d'∧d'.used=d.used∧d'.fs.length=d.fs.length:=by
 obtain⟨ys,x,rfl,hlast,hsegs⟩:=h.lastAt
 have hx:=h.each x (by simp)
 obtain⟨sf,hf⟩:=hx.fl
 have hs:d.sync g.last.name=(0,d.turn x.1.name ⟨batBs x.2,(batBs x.2).length⟩):=by
  unfold Dk.sync Dk.at;rw[hlast,if_neg (by rw[does_true hl];simp),hf,step_same hl]
 have hok:(d.turn x.1.name ⟨batBs x.2,(batBs x.2).length⟩).Ok:=h.ok.turn hf (Nat.le_refl _) (Nat.add_le_add_right h.ok.fits _)
 refine⟨_,?_,⟨h.segs,h.ne,fun y hy=>?_,h.line,fun n hn hs=>?_,h.kn,hok,h.lo,h.hi⟩,⟨hl,rfl⟩,?_,?_⟩
 ·unfold flushLg;rw[if_neg (by rw[hd];simp),hs,if_pos rfl]
 ·by_cases hyx:y.1.name=x.1.name
  ·have hyx':y=x:=by
    rcases List.mem_append.1 hy with hy | hy
    ·exact absurd hyx (h.names y hy)
    ·exact List.mem_singleton.1 hy
   subst hyx';exact⟨hx.of,hx.nm,hx.lo,hx.hi,hx.fl.turned _⟩
  ·exact (h.each y hy).other (by rw[find_turn,if_neg hyx])
 ·refine h.only n hn ?_
  rw[find_turn] at hs;split at hs
  ·next e=>
   show (d.find (segName g.dir n)).isSome=true
   rw[e,hf];rfl
  ·exact hs
 ·have:=used_turn x.1.name ⟨batBs x.2,(batBs x.2).length⟩ ⟨batBs x.2,sf⟩ d.fs h.ok.nodup hf
  show ((d.fs.map fun p=>if p.1=x.1.name then (p.1,_) else p).map fun p=>p.2.bytes.length).sum=_
  unfold Dk.used;simp only at this ⊢
  omega
 ·show (d.fs.map _).length=_
  rw[List.length_map]
theorem more_ok {d:Dk}{g:Lg}{ys:List SgB}{x:SgB}(h:LgOk d g (ys++[x]))(hx:x.2≠[])(hl:d.left = -1)(hf:d.fs.length<200) :
  ∃ d' s,moreLg d g=(0,d',{ g with segs:=g.segs++[s] })∧LgOk d' { g with segs:=g.segs++[s] } (ys++[x]++[(s,[])])∧DkOn d d'∧d'.used=d.used∧d'.fs.length=d.fs.length+1∧s.next=g.stop∧s.size=0:=by
 have hst:=h.stopAt
 obtain⟨ys2,x2,he2,hlast,hsegs⟩:=h.lastAt
 obtain⟨rfl,hx2⟩:=List.append_inj' he2 rfl
 obtain rfl:=List.cons.inj hx2 |>.1
 have hsx:g.stop=x.1.next:=by unfold Lg.stop;rw[hlast]
 have hxin:=h.each x (by simp)
 have hlt:=hxin.of.lt_next hx
 have hfn:d.find (segName g.dir g.stop.toNat)=none:=by
  cases hq:d.find (segName g.dir g.stop.toNat) with
  | none=>rfl
  | some f=>
   obtain⟨y,hy,hyb⟩:=h.only g.stop.toNat (by omega) (by rw[hq];rfl)
   rcases List.mem_append.1 hy with hy | hy
   ·have:=(lined_before h.of h.line y hy).2
    omega
   ·rw[List.mem_singleton.1 hy] at hyb
    omega
 have hmk:d.make (segName g.dir g.stop.toNat)=(0,d.put (segName g.dir g.stop.toNat) ⟨[],0⟩):=by
  unfold Dk.make;rw[if_neg (by rw[does_true hl];simp),if_neg (by rw[h.kn _ (by omega)];simp),hfn,if_neg (by simp),if_neg (by omega),step_same hl]
 have hnot:=find_none hfn
 have hput:d.put (segName g.dir g.stop.toNat) ⟨[],0⟩ = { d with fs:=d.fs++[(segName g.dir g.stop.toNat,⟨[],0⟩)] }:=by
  unfold Dk.put;rw[names_filter hnot]
 have hok:(d.make (segName g.dir g.stop.toNat)).2.Ok:=h.ok.make _
 rw[hmk] at hok;refine⟨_,⟨segName g.dir g.stop.toNat,g.stop,[],0⟩,?_,⟨?_,by simp,fun y hy=>?_,?_,fun n hn hs=>?_,h.kn,hok,fun y hy=>h.lo y (by rw[←hy];cases ys<;>rfl),?_⟩,⟨by rw[hput];exact hl,by rw[hput]⟩,?_,?_,rfl,rfl⟩
 ·unfold moreLg;rw[hmk,if_pos rfl]
 ·show g.segs++[_]=_
  rw[h.segs];simp
 ·rcases List.mem_append.1 hy with hy | hy
  ·refine (h.each y hy).other ?_
   rw[find_put,if_neg];intro e;obtain⟨s,hs⟩:=(h.each y hy).fl
   rw[e,hfn] at hs;cases hs
  ·rw[List.mem_singleton.1 hy]
   refine⟨⟨rfl,rfl,fun b hb=>by (cases hb),trivial⟩,rfl,hst.1,hst.2,⟨0,?_⟩⟩
   rw[find_put,if_pos rfl]
   rfl
 ·exact lined_snoc h.line hsx hx
 ·rw[find_put] at hs;split at hs
  ·next e=>
   refine⟨_,List.mem_append_right _ (List.mem_singleton.2 rfl),?_⟩
   have:=segName_inj (dir:=g.dir) hn (by omega) e
   show g.stop=_
   omega
  ·obtain⟨y,hy,hyb⟩:=h.only n hn hs
   exact⟨y,List.mem_append_left _ hy,hyb⟩
 ·have e:({ g with segs:=g.segs++[⟨segName g.dir g.stop.toNat,g.stop,[],0⟩] }:Lg).stop=g.stop:=by
   unfold Lg.stop Lg.last;simp[Sg.next]
  rw[e];exact h.hi
 ·rw[hput];unfold Dk.used;simp
 ·rw[hput];simp
theorem put_ok {d:Dk}{g:Lg}{ys:List SgB}{x:SgB}(h:LgOk d g (ys++[x]))(hl:d.left = -1) {b:Bt}(hb:b.Ok)(hbb:b.base=g.stop)(hroom:d.used+b.bytes.length≤d.room) :
  ∃ d' s,putLg d g b=(0,d',{ g with segs:=g.segs.set (g.segs.length-1) s })∧LgOk d' { g with segs:=g.segs.set (g.segs.length-1) s } (ys++[(s,x.2++[b])])∧DkOn d d'∧d'.used=d.used+b.bytes.length∧d'.fs.length=d.fs.length∧s.next=b.en:=by
 have hst:=h.stopAt
 obtain⟨ys2,x2,he2,hlast,hsegs⟩:=h.lastAt
 obtain⟨rfl,hx2⟩:=List.append_inj' he2 rfl
 obtain rfl:=List.cons.inj hx2 |>.1
 have hsx:g.stop=x.1.next:=by unfold Lg.stop;rw[hlast]
 have hxin:=h.each x (by simp)
 obtain⟨sf,hf⟩:=hxin.fl
 have hadd:d.add x.1.name b.bytes=(0,d.turn x.1.name ⟨batBs x.2++b.bytes,sf⟩):=by
  have hnr:¬d.room<d.used+b.bytes.length:=by omega
  unfold Dk.add Dk.at;rw[if_neg (by rw[does_true hl];simp),hf,step_same hl]
  simp only[hnr,if_false]
 have hlt:=hb.nums
 have hso:=hxin.of.noted hb (by omega)
 have hsafe:sf≤(batBs x.2).length:=h.ok.safe _ (lookup_some hf)
 have hok:(d.turn x.1.name ⟨batBs x.2++b.bytes,sf⟩).Ok:=h.ok.turn hf (by show sf≤(batBs x.2++b.bytes).length;rw[List.length_append];omega) (by show _+(batBs x.2++b.bytes).length≤_+(batBs x.2).length;rw[List.length_append];omega)
 have hset:g.segs.set (g.segs.length-1) (x.1.noted b.base b.en b.rs b.bytes.length)=ys.map (·.1)++[x.1.noted b.base b.en b.rs b.bytes.length]:=by
  rw[hsegs];simp
 have hnx:(x.1.noted b.base b.en b.rs b.bytes.length).next=b.en:=by rw[hso.next,lastEnd_snoc]
 refine⟨_,x.1.noted b.base b.en b.rs b.bytes.length,?_,⟨?_,by simp,fun y hy=>?_,?_,fun n hn hs=>?_,h.kn,hok,fun y hy=>?_,?_⟩,⟨hl,rfl⟩,?_,?_,hnx⟩
 ·unfold putLg;rw[hlast,addSg_ok hb (by omega),hadd]
  simp only[if_true]
 ·show g.segs.set _ _=_
  rw[hset];simp
 ·rcases List.mem_append.1 hy with hy | hy
  ·exact (h.each y (List.mem_append_left _ hy)).other (by rw[find_turn,if_neg (h.names y hy)])
  ·rw[List.mem_singleton.1 hy]
   refine⟨hso,hxin.nm,hxin.lo,hxin.hi,?_⟩
   show (d.turn x.1.name _).has x.1.name (batBs (x.2++[b]))
   rw[batBs_snoc];exact hxin.fl.turned sf
 ·exact lined_last h.line rfl
 ·obtain⟨y,hy,hyb⟩:=h.only n hn (by
   rw[find_turn] at hs;split at hs
   ·next e=>
    show (d.find (segName g.dir n)).isSome=true
    rw[e,hf];rfl
   ·exact hs)
  rcases List.mem_append.1 hy with hy | hy
  ·exact⟨y,List.mem_append_left _ hy,hyb⟩
  ·rw[List.mem_singleton.1 hy] at hyb
   exact⟨_,List.mem_append_right _ (List.mem_singleton.2 rfl),hyb⟩
 ·cases ys with
  | nil=>
   have h1:=h.lo x rfl
   obtain rfl:=Option.some.inj hy
   exact h1
  | cons a r=>exact h.lo y hy
 ·have e:({ g with segs:=g.segs.set (g.segs.length-1) (x.1.noted b.base b.en b.rs b.bytes.length) }:Lg).stop=b.en:=by
   unfold Lg.stop Lg.last;simp only[hset]
   simp[hnx]
  rw[e];have:=h.hi
  have:=hlt.lt
  show g.start≤b.en
  omega
 ·have:=used_turn x.1.name ⟨batBs x.2++b.bytes,sf⟩ ⟨batBs x.2,sf⟩ d.fs h.ok.nodup hf
  show ((d.fs.map fun p=>if p.1=x.1.name then (p.1,_) else p).map fun p=>p.2.bytes.length).sum=_
  unfold Dk.used;simp only[List.length_append] at this ⊢
  omega
 ·show (d.fs.map _).length=_
  rw[List.length_map]
structure Grown (d:Dk) (g:Lg) (xs:List SgB) (b:Bt) (d':Dk) (g':Lg) (xs':List SgB):Prop where
 ok:LgOk d' g' xs'
 all:allBts xs'=allBts xs++[b]
 dir:g'.dir=g.dir
 most:g'.most=g.most
 start:g'.start=g.start
 down:g'.down=false
 stop:g'.stop=b.en
 on:DkOn d d'
 used:d'.used=d.used+b.bytes.length
 files:d'.fs.length≤d.fs.length+1
 segs:xs'.length≤xs.length+1
theorem putLg_stop {d':Dk}{g:Lg}{ys:List SgB}{s:Sg}{l:List Bt}(h:LgOk d' { g with segs:=g.segs.set (g.segs.length-1) s } (ys++[(s,l)])):({ g with segs:=g.segs.set (g.segs.length-1) s }:Lg).stop=s.next:=by
 obtain⟨ys2,x2,he2,hlast,_⟩:=h.lastAt
 obtain⟨_,hx2⟩:=List.append_inj' he2 rfl
 obtain rfl:=List.cons.inj hx2 |>.1
 unfold Lg.stop;rw[hlast]
theorem add_ok {d:Dk}{g:Lg}{xs:List SgB}(h:LgOk d g xs)(hl:d.left = -1)(hd:g.down=false) (rs:List Rec)(hrs:∀ r∈(g.batch rs).rs,Rec.Ok r)(hf:d.fs.length<200)(hroom:d.used+6000≤d.room) :
  (encErr (g.batch rs).base (g.batch rs).en (g.batch rs).rs≠0→addLg d g rs=(encErr (g.batch rs).base (g.batch rs).en (g.batch rs).rs,d,g))∧
  (encErr (g.batch rs).base (g.batch rs).en (g.batch rs).rs=0→∃ d' g' xs',addLg d g rs=(0,d',g')∧Grown d g xs (g.batch rs) d' g' xs'):=by
 have hnd:¬g.down=true:=by rw[hd];simp
 refine⟨fun he=>by unfold addLg;rw[if_neg hnd,if_pos he],fun he=>?_⟩
 have hb:(g.batch rs).Ok:=⟨he,hrs⟩
 have hbl:=hb.nums.len
 obtain⟨ys,x,rfl,hlast,hsegs⟩:=h.lastAt
 have hbe:¬encErr (g.batch rs).base (g.batch rs).en (g.batch rs).rs≠0:=by simp[he]
 by_cases hr:0<g.last.size∧g.most<(g.last.size:Int)+((g.batch rs).bytes.length:Nat)
 ·have hxs:x.2≠[]:=by
   intro h0;have h1:=(h.each x (by simp)).of.size
   rw[h0] at h1;have h1:x.1.size=0:=h1
   rw[hlast,h1] at hr;omega
  obtain⟨d1,hf1,hok1,hon1,hu1,hl1⟩:=flush_ok h hl hd
  obtain⟨d2,s2,hm2,hok2,hon2,hu2,hl2,hnx2,_⟩:=more_ok hok1 hxs hon1.left (by omega)
  have hst2:({ ({ g with safe:=g.stop }:Lg) with segs:=({ g with safe:=g.stop }:Lg).segs++[s2] }:Lg).stop=g.stop:=by
   obtain⟨ys2,x2,he2,hlast2,_⟩:=hok2.lastAt
   obtain⟨_,hx2⟩:=List.append_inj' he2 rfl
   obtain rfl:=List.cons.inj hx2 |>.1
   exact (congrArg Sg.next hlast2).trans hnx2
  obtain⟨d3,s3,hp3,hok3,hon3,hu3,hl3,hnx3⟩:=put_ok hok2 hon2.left hb (by rw[hst2];rfl) (by rw[hu2,hu1,hon2.room,hon1.room];omega)
  have hroll:rollLg d g=(0,d2,{ ({ g with safe:=g.stop }:Lg) with segs:=({ g with safe:=g.stop }:Lg).segs++[s2] }):=by
   unfold rollLg;rw[hf1,if_pos rfl,hm2]
  refine⟨d3,_,ys++[x]++[(s3,[]++[g.batch rs])],?_,hok3,?_,rfl,rfl,rfl,hd,(putLg_stop hok3).trans hnx3,⟨hon3.left,by rw[hon3.room,hon2.room,hon1.room]⟩,by rw[hu3,hu2,hu1],by omega,by simp⟩
  ·unfold addLg;rw[if_neg hnd,if_neg hbe,if_pos hr,hroll,if_pos rfl,hp3]
  ·rw[allBts_append,allBts_cons];simp[allBts]
 ·obtain⟨d3,s3,hp3,hok3,hon3,hu3,hl3,hnx3⟩:=put_ok h hl hb rfl (by omega)
  refine⟨d3,_,ys++[(s3,x.2++[g.batch rs])],?_,hok3,?_,rfl,rfl,rfl,hd,(putLg_stop hok3).trans hnx3,hon3,hu3,by omega,by simp⟩
  ·unfold addLg;rw[if_neg hnd,if_neg hbe,if_neg hr,hp3]
  ·rw[allBts_append,allBts_append];simp[allBts]
theorem step_find (d:Dk) (x:Nm):d.step.find x=d.find x:=rfl
theorem at_done {d:Dk}{x:Nm}{g:Fl→Nat×(Dk→Dk)}(h:(d.at x g).1=0):∃ f,d.find x=some f∧(g f).1=0∧(d.at x g).2=(g f).2 d.step:=by
 unfold Dk.at at h ⊢
 by_cases hd:d.does=false
 ·rw[if_pos hd] at h;cases h
 rw[if_neg hd] at h ⊢
 cases hf:d.find x with
 | none=>rw[hf] at h;cases h
 | some f=>rw[hf] at h;exact⟨f,rfl,h,rfl⟩
theorem make_done {d:Dk}{x:Nm}(h:(d.make x).1=0):d.find x=none∧dkName x=true∧(d.make x).2=d.step.put x ⟨[],0⟩:=by
 unfold Dk.make at h ⊢
 by_cases h1:d.does=false
 ·rw[if_pos h1] at h;cases h
 rw[if_neg h1] at h ⊢
 by_cases h2:dkName x=false
 ·rw[if_pos h2] at h;cases h
 rw[if_neg h2] at h ⊢
 by_cases h3:(d.find x).isSome=true
 ·rw[if_pos h3] at h;cases h
 rw[if_neg h3] at h ⊢
 by_cases h4:d.fs.length=200
 ·rw[if_pos h4] at h;cases h
 rw[if_neg h4]
 exact⟨by simpa using h3,by simpa using h2,rfl⟩
theorem add_done {d:Dk}{x:Nm}{b:List UInt8}(h:(d.add x b).1=0):∃ f,d.find x=some f∧(d.add x b).2=d.step.turn x ⟨f.bytes++b,f.safe⟩:=by
 obtain⟨f,hf,hg,he⟩:=at_done h
 refine⟨f,hf,?_⟩
 have he:(d.add x b).2=_:=he
 rw[he];by_cases hr:d.room<d.used+b.length
 ·simp only[if_pos hr] at hg;cases hg
 ·simp only[if_neg hr]
theorem sync_done {d:Dk}{x:Nm}(h:(d.sync x).1=0):∃ f,d.find x=some f∧(d.sync x).2=d.step.turn x ⟨f.bytes,f.bytes.length⟩:=by
 obtain⟨f,hf,_,he⟩:=at_done h
 exact⟨f,hf,he⟩
theorem remove_done {d:Dk}{x:Nm}(h:(d.remove x).1=0):∃ f,d.find x=some f∧(d.remove x).2=d.step.del x:=by
 obtain⟨f,hf,_,he⟩:=at_done h
 exact⟨f,hf,he⟩
theorem rename_done {d:Dk}{x y:Nm}(h:(d.rename x y).1=0):∃ f,d.find x=some f∧(d.rename x y).2=(d.step.del x).put y f:=by
 obtain⟨f,hf,hg,he⟩:=at_done h
 refine⟨f,hf,?_⟩
 have he:(d.rename x y).2=_:=he
 rw[he];by_cases hr:dkName y=false
 ·simp only[if_pos hr] at hg;cases hg
 ·simp only[if_neg hr]
structure RewD (d d':Dk) (g g':Sg) (nm2:Nm) (l:List Bt):Prop where
 has:d'.has g.name (batBs l)
 same:∀ y,y≠g.name→y≠nm2→d'.find y=d.find y
 gone:d'.find nm2=none
 of:SgOf g' l
 name:g'.name=g.name
 base:g'.base=g.base
theorem rew2_done {nm2:Nm}{g:Sg}:∀ (l done:List Bt) (d:Dk) (gt:Sg),gt.name=nm2→d.has nm2 (batBs done)→SgOf gt done→(∀ b∈l,b.Ok)→rising (lastEnd gt.base done) l→(rew2 d g gt l).1=0→
  ∃ d' gt',rew2 d g gt l=rew3 d' g gt'∧d'.has nm2 (batBs (done++l))∧(∀ y,y≠nm2→d'.find y=d.find y)∧SgOf gt' (done++l)∧gt'.name=nm2∧gt'.base=gt.base
 | [],done,d,gt,hnm,hd,hg,_,_,_=>⟨d,gt,rfl,by rw[List.append_nil];exact hd,fun _ _=>rfl,by rw[List.append_nil];exact hg,hnm,rfl⟩
 | b::l,done,d,gt,hnm,hd,hg,hok,hr,h=>by
  have hb:=hok b (List.mem_cons_self ..)
  have hn:gt.next≤b.base:=by rw[hg.next];exact hr.1
  have e1:rew2 d g gt (b::l)=if (addSg d gt b.base b.en b.rs).1=0 then rew2 (addSg d gt b.base b.en b.rs).2.1 g (addSg d gt b.base b.en b.rs).2.2 l else ((addSg d gt b.base b.en b.rs).1,((addSg d gt b.base b.en b.rs).2.1.remove gt.name).2,g):=rfl
  rw[e1] at h ⊢
  by_cases h0:(addSg d gt b.base b.en b.rs).1=0
  ·rw[if_pos h0] at h ⊢
   rw[addSg_ok hb hn] at h0 h ⊢
   by_cases ha:(d.add gt.name b.bytes).1=0
   ·rw[if_pos ha] at h ⊢
    obtain⟨f,hf,he⟩:=add_done ha
    rw[hnm] at hf he
    obtain⟨s,hs⟩:=hd
    rw[hs] at hf;obtain rfl:=Option.some.inj hf
    have h4:((d.add gt.name b.bytes).2).has nm2 (batBs (done++[b])):=by
     rw[hnm,he,batBs_snoc];exact⟨_,by rw[find_turn,if_pos rfl,step_find,hs];rfl⟩
    have h3:=hg.noted hb hn
    obtain⟨d',gt',k1,k2,k3,k4,k5,k6⟩:=rew2_done l (done++[b]) (d.add gt.name b.bytes).2 (gt.noted b.base b.en b.rs b.bytes.length) hnm h4 h3 (fun c hc=>hok c (List.mem_cons_of_mem _ hc)) (by rw[lastEnd_snoc];exact hr.2) h
    have e2:done++b::l=done++[b]++l:=by simp
    rw[e2];refine⟨d',gt',k1,k2,fun y hy=>?_,k4,k5,k6⟩
    rw[k3 y hy,hnm,he,find_turn,if_neg hy,step_find]
   ·rw[if_neg ha] at h0
    exact absurd h0 ha
  ·rw[if_neg h0] at h
   exact absurd h h0
theorem rew_done {d:Dk}{g:Sg}{nm2:Nm}{l:List Bt}(hne:nm2≠g.name)(hok:∀ b∈l,b.Ok)(hr:rising g.base l)(h:(rewL d g nm2 l).1=0):RewD d (rewL d g nm2 l).2.1 g (rewL d g nm2 l).2.2 nm2 l:=by
 obtain⟨d0,hd0⟩:∃ d0,(rew0 d nm2).2=d0:=⟨_,rfl⟩
 have h0:(rew0 d nm2).1=0:=by
  by_cases h0:(rew0 d nm2).1=0
  ·exact h0
  ·unfold rewL at h;rw[if_neg h0] at h;exact absurd h h0
 have e0:rewL d g nm2 l=rew1 d0 g nm2 l:=by unfold rewL;rw[if_pos h0,hd0]
 have hs0:∀ y,y≠nm2→d0.find y=d.find y:=by
  intro y hy;rw[←hd0];unfold rew0 at h0 ⊢
  by_cases hz:0≤d.size nm2
  ·rw[if_pos hz] at h0 ⊢
   obtain⟨f,_,he⟩:=remove_done h0
   rw[he,find_del,if_neg hy,step_find]
  ·rw[if_neg hz]
 rw[e0] at h ⊢
 have h1:(d0.make nm2).1=0:=by
  by_cases h1:(d0.make nm2).1=0
  ·exact h1
  ·unfold rew1 at h;rw[if_neg h1] at h;exact absurd h h1
 have e1:rew1 d0 g nm2 l=rew2 (d0.make nm2).2 g ⟨nm2,g.base,[],0⟩ l:=by unfold rew1;rw[if_pos h1]
 obtain⟨_,_,hm⟩:=make_done h1
 rw[e1] at h ⊢
 obtain⟨d2,gt,e2,k2,k3,k4,k5,k6⟩:=rew2_done l [] (d0.make nm2).2 ⟨nm2,g.base,[],0⟩ rfl ⟨0,by rw[hm,find_put,if_pos rfl];rfl⟩ ⟨rfl,rfl,fun b hb=>(by cases hb),trivial⟩ hok hr h
 rw[e2] at h ⊢
 rw[List.nil_append] at k2 k4
 have h3:(d2.sync gt.name).1=0:=by
  by_cases h3:(d2.sync gt.name).1=0
  ·exact h3
  ·unfold rew3 at h;rw[if_neg h3] at h;exact absurd h h3
 have e3:rew3 d2 g gt=rew4 (d2.sync gt.name).2 g gt:=by unfold rew3;rw[if_pos h3]
 rw[e3] at h ⊢
 obtain⟨f3,hf3,hsy⟩:=sync_done h3
 have h4:((d2.sync gt.name).2.rename gt.name g.name).1=0:=by
  by_cases h4:((d2.sync gt.name).2.rename gt.name g.name).1=0
  ·exact h4
  ·unfold rew4 at h;rw[if_neg h4] at h;exact absurd h h4
 have e4:rew4 (d2.sync gt.name).2 g gt=(0,((d2.sync gt.name).2.rename gt.name g.name).2,{ g with pls:=gt.pls,size:=gt.size }):=by unfold rew4;rw[if_pos h4]
 rw[e4];obtain⟨f4,hf4,hrn⟩:=rename_done h4
 rw[k5] at hf3 hsy hf4 hrn
 obtain⟨s2,hs2⟩:=k2
 rw[hs2] at hf3;obtain rfl:=Option.some.inj hf3
 rw[hsy,find_turn,if_pos rfl,step_find,hs2] at hf4
 obtain rfl:=Option.some.inj hf4
 refine⟨⟨(batBs l).length,?_⟩,fun y hy hy2=>?_,?_,⟨k4.pls,k4.size,k4.ok,hr⟩,rfl,rfl⟩
 ·show (((d2.sync gt.name).2.rename gt.name g.name).2).find g.name=_
  rw[k5,hrn,find_put,if_pos rfl]
 ·show (((d2.sync gt.name).2.rename gt.name g.name).2).find y=_
  rw[k5,hrn,find_put,if_neg hy,find_del,if_neg hy2,step_find,hsy,find_turn,if_neg hy2,step_find,k3 y hy2,hm,find_put,if_neg hy2,step_find,hs0 y hy2]
 ·show (((d2.sync gt.name).2.rename gt.name g.name).2).find nm2=_
  rw[k5,hrn,find_put,if_neg hne,find_del,if_pos rfl]
theorem find_len {d:Dk}(h:d.Ok) {x:Nm}{f:Fl}(hf:d.find x=some f):(d.del x).fs.length+1=d.fs.length:=by
 have h1:=filter_length x h.nodup
 have h2:(d.fs.lookup x).isSome=true:=by
  have:d.fs.lookup x=some f:=hf
  rw[this];rfl
 rw[if_pos h2] at h1
 exact h1
structure Rwn (d d':Dk) (n:Nat):Prop where
 ok:d'.Ok
 left:d'.left = -1
 room:d'.room=d.room
 used:d'.used≤d.used+n
 files:d'.fs.length=d.fs.length
theorem rew2_ok {nm2:Nm}{g:Sg}:∀ (l done:List Bt) (d:Dk) (gt:Sg),gt.name=nm2→d.has nm2 (batBs done)→SgOf gt done→(∀ b∈l,b.Ok)→rising (lastEnd gt.base done) l→d.Ok→d.left = -1→d.used+(batBs l).length≤d.room→
  ∃ d' gt',rew2 d g gt l=rew3 d' g gt'∧Rwn d d' (batBs l).length∧d'.has nm2 (batBs (done++l))∧(∀ y,y≠nm2→d'.find y=d.find y)∧gt'.name=nm2
 | [],done,d,gt,hnm,hd,hg,_,_,hdk,hl,_=>⟨d,gt,rfl,⟨hdk,hl,rfl,Nat.le_add_right _ _,rfl⟩,by rw[List.append_nil];exact hd,fun _ _=>rfl,hnm⟩
 | b::l,done,d,gt,hnm,hd,hg,hok,hr,hdk,hl,hroom=>by
  have hb:=hok b (List.mem_cons_self ..)
  have hn:gt.next≤b.base:=by rw[hg.next];exact hr.1
  rw[batBs_cons,List.length_append] at hroom;obtain⟨sf,hf⟩:=hd
  have hadd:d.add gt.name b.bytes=(0,d.turn nm2 ⟨batBs done++b.bytes,sf⟩):=by
   have hnr:¬d.room<d.used+b.bytes.length:=by omega
   unfold Dk.add Dk.at;rw[hnm,if_neg (by rw[does_true hl];simp),hf,step_same hl]
   simp only[hnr,if_false]
  have e1:rew2 d g gt (b::l)=if (addSg d gt b.base b.en b.rs).1=0 then rew2 (addSg d gt b.base b.en b.rs).2.1 g (addSg d gt b.base b.en b.rs).2.2 l else ((addSg d gt b.base b.en b.rs).1,((addSg d gt b.base b.en b.rs).2.1.remove gt.name).2,g):=rfl
  rw[e1,addSg_ok hb hn,hadd,if_pos rfl,if_pos rfl]
  have hsafe:sf≤(batBs done).length:=hdk.safe _ (lookup_some hf)
  have hok2:(d.turn nm2 ⟨batBs done++b.bytes,sf⟩).Ok:=hdk.turn hf (by show sf≤(batBs done++b.bytes).length;rw[List.length_append];omega) (by show _+(batBs done++b.bytes).length≤_+(batBs done).length;rw[List.length_append];omega)
  have hu:(d.turn nm2 ⟨batBs done++b.bytes,sf⟩).used=d.used+b.bytes.length:=by
   have:=used_turn nm2 ⟨batBs done++b.bytes,sf⟩ ⟨batBs done,sf⟩ d.fs hdk.nodup hf
   show ((d.fs.map fun p=>if p.1=nm2 then (p.1,_) else p).map fun p=>p.2.bytes.length).sum=_
   unfold Dk.used;simp only[List.length_append] at this ⊢
   omega
  have hfl:(d.turn nm2 ⟨batBs done++b.bytes,sf⟩).fs.length=d.fs.length:=by
   show (d.fs.map _).length=_
   rw[List.length_map]
  have h4:(d.turn nm2 ⟨batBs done++b.bytes,sf⟩).has nm2 (batBs (done++[b])):=⟨sf,by rw[find_turn,if_pos rfl,hf,batBs_snoc];rfl⟩
  obtain⟨d',gt',k1,k2,k3,k4,k5⟩:=rew2_ok (g:=g) l (done++[b]) (d.turn nm2 ⟨batBs done++b.bytes,sf⟩) (gt.noted b.base b.en b.rs b.bytes.length) hnm h4 (hg.noted hb hn) (fun c hc=>hok c (List.mem_cons_of_mem _ hc)) (by rw[lastEnd_snoc];exact hr.2) hok2 hl (by rw[hu];show _≤d.room;omega)
  have e2:done++b::l=done++[b]++l:=by simp
  rw[e2];refine⟨d',gt',k1,⟨k2.ok,k2.left,k2.room,?_,by rw[k2.files,hfl]⟩,k3,fun y hy=>by rw[k4 y hy,find_turn,if_neg hy],k5⟩
  have:=k2.used
  rw[hu] at this;rw[batBs_cons,List.length_append];omega
theorem rew1_ok {d:Dk}{g:Sg}{nm2:Nm}{l l0:List Bt}(hne:nm2≠g.name)(hok:∀ b∈l,b.Ok)(hr:rising g.base l)(hdk:d.Ok)(hl:d.left = -1)(hroom:d.used+(batBs l).length≤d.room)(hfl:d.fs.length<200)(hn:d.find nm2=none)(h0:d.has g.name (batBs l0))(hle:(batBs l).length≤(batBs l0).length) (k1:dkName g.name=true) (k2:dkName nm2=true) :
  (rew1 d g nm2 l).1=0∧(rew1 d g nm2 l).2.1.Ok∧(rew1 d g nm2 l).2.1.left = -1∧(rew1 d g nm2 l).2.1.room=d.room∧(rew1 d g nm2 l).2.1.used≤d.used∧(rew1 d g nm2 l).2.1.fs.length≤d.fs.length:=by
 have hmk:d.make nm2=(0,d.put nm2 ⟨[],0⟩):=by
  unfold Dk.make;rw[if_neg (by rw[does_true hl];simp),if_neg (by rw[k2];simp),hn,if_neg (by simp),if_neg (by omega),step_same hl]
 have hput:d.put nm2 ⟨[],0⟩ = { d with fs:=d.fs++[(nm2,⟨[],0⟩)] }:=by
  unfold Dk.put;rw[names_filter (find_none hn)]
 have hok1:(d.make nm2).2.Ok:=hdk.make _
 rw[hmk] at hok1;have hu1:(d.put nm2 ⟨[],0⟩).used=d.used:=by rw[hput];unfold Dk.used;simp
 have hf1:(d.put nm2 ⟨[],0⟩).fs.length=d.fs.length+1:=by rw[hput];simp
 have hr1:(d.put nm2 ⟨[],0⟩).room=d.room:=by rw[hput]
 obtain⟨d2,gt,e2,j1,j2,j3,j4⟩:=rew2_ok (g:=g) l [] (d.put nm2 ⟨[],0⟩) ⟨nm2,g.base,[],0⟩ rfl ⟨0,by rw[find_put,if_pos rfl];rfl⟩ ⟨rfl,rfl,fun b hb=>(by cases hb),trivial⟩ hok hr hok1 (by rw[hput];exact hl) (by rw[hu1,hr1];exact hroom)
 rw[List.nil_append] at j2;obtain⟨s2,hs2⟩:=j2
 have hsy:d2.sync nm2=(0,d2.turn nm2 ⟨batBs l,(batBs l).length⟩):=by
  unfold Dk.sync Dk.at;rw[if_neg (by rw[does_true j1.left];simp),hs2,step_same j1.left]
 have hok3:(d2.turn nm2 ⟨batBs l,(batBs l).length⟩).Ok:=j1.ok.turn hs2 (Nat.le_refl _) (Nat.add_le_add_right j1.ok.fits _)
 have hu3:(d2.turn nm2 ⟨batBs l,(batBs l).length⟩).used=d2.used:=by
  have:=used_turn nm2 ⟨batBs l,(batBs l).length⟩ ⟨batBs l,s2⟩ d2.fs j1.ok.nodup hs2
  show ((d2.fs.map fun p=>if p.1=nm2 then (p.1,_) else p).map fun p=>p.2.bytes.length).sum=_
  unfold Dk.used;simp only at this ⊢
  omega
 have hf3:(d2.turn nm2 ⟨batBs l,(batBs l).length⟩).fs.length=d2.fs.length:=by
  show (d2.fs.map _).length=_
  rw[List.length_map]
 have hn3:(d2.turn nm2 ⟨batBs l,(batBs l).length⟩).find nm2=some ⟨batBs l,(batBs l).length⟩:=by rw[find_turn,if_pos rfl,hs2];rfl
 obtain⟨s0,hs0⟩:=h0
 have hg3:(d2.turn nm2 ⟨batBs l,(batBs l).length⟩).find g.name=some ⟨batBs l0,s0⟩:=by rw[find_turn,if_neg (Ne.symm hne),j3 _ (Ne.symm hne),find_put,if_neg (Ne.symm hne),hs0]
 obtain⟨d3,hd3⟩:∃ d3,d2.turn nm2 ⟨batBs l,(batBs l).length⟩=d3:=⟨_,rfl⟩
 rw[hd3] at hsy hok3 hu3 hf3 hn3 hg3
 have hl3:d3.left = -1:=by rw[←hd3];exact j1.left
 have hr3:d3.room=d2.room:=by rw[←hd3];rfl
 have hrn:d3.rename nm2 g.name=(0,(d3.del nm2).put g.name ⟨batBs l,(batBs l).length⟩):=by
  unfold Dk.rename Dk.at;rw[if_neg (by rw[does_true hl3];simp),hn3,step_same hl3]
  simp only[k1]
  rfl
 have e5:rew1 d g nm2 l=(0,(d3.del nm2).put g.name ⟨batBs l,(batBs l).length⟩,{ g with pls:=gt.pls,size:=gt.size }):=by
  unfold rew1;rw[hmk,if_pos rfl,e2]
  unfold rew3 rew4;rw[j4,hsy,if_pos rfl,hrn,if_pos rfl]
 rw[e5];refine⟨rfl,hok3.renamed hn3 k1,hl3,by show d3.room=_;rw[hr3,j1.room,hr1],?_,?_⟩
 ·have h1:(d3.del nm2).used+(batBs l).length≤d3.used:=used_del_le d3.fs nm2 _ hn3
  have hgd:(d3.del nm2).find g.name=some ⟨batBs l0,s0⟩:=by rw[find_del,if_neg (Ne.symm hne),hg3]
  have h2:((d3.del nm2).del g.name).used+(batBs l0).length≤(d3.del nm2).used:=used_del_le (d3.del nm2).fs g.name _ hgd
  have h3:((d3.del nm2).put g.name ⟨batBs l,(batBs l).length⟩).used=((d3.del nm2).del g.name).used+(batBs l).length:=by
   unfold Dk.put Dk.used;rw[List.map_append,List.sum_append];simp only[List.map_cons,List.map_nil,List.sum_cons,List.sum_nil,Nat.add_zero]
   rfl
  have h4:=j1.used
  show ((d3.del nm2).put g.name ⟨batBs l,(batBs l).length⟩).used≤_
  omega
 ·have h1:=find_len hok3 hn3
  have hgd:(d3.del nm2).find g.name=some ⟨batBs l0,s0⟩:=by rw[find_del,if_neg (Ne.symm hne),hg3]
  have h2:=find_len (hok3.del nm2) hgd
  have h3:=j1.files
  have h4:((d3.del nm2).put g.name ⟨batBs l,(batBs l).length⟩).fs.length=((d3.del nm2).del g.name).fs.length+1:=by
   show (((d3.del nm2).fs.filter _)++[_]).length=_
   rw[List.length_append];rfl
  show ((d3.del nm2).put g.name ⟨batBs l,(batBs l).length⟩).fs.length≤_
  omega
theorem rew_ok {d:Dk}{g:Sg}{nm2:Nm}{l l0:List Bt}(hne:nm2≠g.name)(hok:∀ b∈l,b.Ok)(hr:rising g.base l)(hdk:d.Ok)(hl:d.left = -1)(hroom:d.used+(batBs l).length≤d.room)(hfl:d.fs.length<200)(h0:d.has g.name (batBs l0))(hle:(batBs l).length≤(batBs l0).length) (k1:dkName g.name=true) (k2:dkName nm2=true) :
  (rewL d g nm2 l).1=0∧(rewL d g nm2 l).2.1.Ok∧(rewL d g nm2 l).2.1.left = -1∧(rewL d g nm2 l).2.1.room=d.room∧(rewL d g nm2 l).2.1.used≤d.used∧(rewL d g nm2 l).2.1.fs.length≤d.fs.length:=by
 cases hf:d.find nm2 with
 | none=>
  have e0:rew0 d nm2=(0,d):=by
   unfold rew0 Dk.size;rw[hf];rfl
  have e1:rewL d g nm2 l=rew1 d g nm2 l:=by unfold rewL;rw[e0,if_pos rfl]
  rw[e1];exact rew1_ok hne hok hr hdk hl hroom hfl hf h0 hle k1 k2
 | some f=>
  have hrm:d.remove nm2=(0,d.del nm2):=by
   unfold Dk.remove Dk.at;rw[if_neg (by rw[does_true hl];simp),hf,step_same hl]
  have e0:rew0 d nm2=(0,d.del nm2):=by
   unfold rew0;rw[if_pos (by unfold Dk.size;rw[hf];exact Int.natCast_nonneg _),hrm]
  have e1:rewL d g nm2 l=rew1 (d.del nm2) g nm2 l:=by unfold rewL;rw[e0,if_pos rfl]
  rw[e1];have hu:(d.del nm2).used≤d.used:=used_filter d nm2
  have hfn:=find_len hdk hf
  obtain⟨s0,hs0⟩:=h0
  obtain⟨j1,j2,j3,j4,j5,j6⟩:=rew1_ok (d:=d.del nm2) hne hok hr (hdk.del _) hl (by show _≤d.room;omega) (by omega) (by rw[find_del,if_pos rfl]) ⟨s0,by rw[find_del,if_neg (Ne.symm hne)];exact hs0⟩ hle k1 k2
  exact⟨j1,j2,j3,j4,by omega,by omega⟩
theorem at_other {d:Dk}{x y:Nm}{g:Fl→Nat×(Dk→Dk)}(h:∀ f e,((g f).2 e).find y=e.find y):(d.at x g).2.find y=d.find y:=by
 unfold Dk.at;by_cases hd:d.does=false
 ·rw[if_pos hd]
 rw[if_neg hd]
 cases hf:d.find x with
 | none=>rfl
 | some f=>exact h f d.step
theorem make_other (d:Dk) {x y:Nm}(hy:y≠x):(d.make x).2.find y=d.find y:=by
 unfold Dk.make;split
 ·rfl
 ·split
  ·rfl
  ·split
   ·rfl
   ·split
    ·rfl
    ·show (d.step.put x ⟨[],0⟩).find y=_
     rw[find_put,if_neg hy,step_find]
theorem add_other (d:Dk) {x y:Nm}(hy:y≠x) (b:List UInt8):(d.add x b).2.find y=d.find y:=at_other fun f e=>by
 by_cases hr:d.room<d.used+b.length
 ·simp only[if_pos hr];rfl
 ·simp only[if_neg hr]
  rw[find_turn,if_neg hy]
theorem sync_other (d:Dk) {x y:Nm}(hy:y≠x):(d.sync x).2.find y=d.find y:=at_other fun f e=>by
 show (e.turn x _).find y=_
 rw[find_turn,if_neg hy]
theorem cut_other (d:Dk) {x y:Nm}(hy:y≠x) (n:Int):(d.cut x n).2.find y=d.find y:=at_other fun f e=>by
 by_cases hr:n<0∨(f.bytes.length:Int)<n
 ·simp only[if_pos hr];rfl
 ·simp only[if_neg hr]
  rw[find_turn,if_neg hy]
theorem remove_other (d:Dk) {x y:Nm}(hy:y≠x):(d.remove x).2.find y=d.find y:=at_other fun f e=>by
 show (e.del x).find y=_
 rw[find_del,if_neg hy]
theorem at_undone {d:Dk}{x:Nm}{g:Fl→Nat×(Dk→Dk)}(hg:∀ f,(g f).1≠0→(g f).2=id)(h:(d.at x g).1≠0) (y:Nm):(d.at x g).2.find y=d.find y:=by
 unfold Dk.at at h ⊢
 by_cases hd:d.does=false
 ·rw[if_pos hd]
 rw[if_neg hd] at h ⊢
 cases hf:d.find x with
 | none=>rfl
 | some f=>
  rw[hf] at h;show ((g f).2 d.step).find y=_
  rw[hg f h]
  rfl
theorem rename_not {d:Dk}{x z:Nm}(h:(d.rename x z).1≠0) (y:Nm):(d.rename x z).2.find y=d.find y:=by
 refine at_undone (fun f hf=>?_) h y
 by_cases hr:dkName z=false
 ·simp only[if_pos hr]
 ·simp only[if_neg hr] at hf
  exact absurd rfl hf
theorem addSg_other (d:Dk) (g:Sg) (base en:Int) (rs:List Rec) {y:Nm}(hy:y≠g.name):(addSg d g base en rs).2.1.find y=d.find y:=by
 unfold addSg;split
 ·rfl
 ·split
  ·rfl
  ·split
   ·exact add_other d hy _
   ·exact add_other d hy _
theorem rew2_other {nm2:Nm}{g:Sg}{y:Nm}(hy:y≠nm2):∀ (l:List Bt) (d:Dk) (gt:Sg),gt.name=nm2→(rew2 d g gt l).1≠0→(rew2 d g gt l).2.1.find y=d.find y
 | [],d,gt,hnm,h=>by
  have e0:rew2 d g gt []=rew3 d g gt:=rfl
  rw[e0] at h ⊢
  unfold rew3 at h ⊢
  by_cases h1:(d.sync gt.name).1=0
  ·rw[if_pos h1] at h ⊢
   unfold rew4 at h ⊢
   by_cases h2:((d.sync gt.name).2.rename gt.name g.name).1=0
   ·rw[if_pos h2] at h
    exact absurd rfl h
   ·rw[if_neg h2]
    show (((d.sync gt.name).2.rename gt.name g.name).2.remove gt.name).2.find y=_
    rw[remove_other _ (by rw[hnm];exact hy),rename_not h2,sync_other _ (by rw[hnm];exact hy)]
  ·rw[if_neg h1]
   show ((d.sync gt.name).2.remove gt.name).2.find y=_
   rw[remove_other _ (by rw[hnm];exact hy),sync_other _ (by rw[hnm];exact hy)]
 | b::l,d,gt,hnm,h=>by
  have e1:rew2 d g gt (b::l)=if (addSg d gt b.base b.en b.rs).1=0 then rew2 (addSg d gt b.base b.en b.rs).2.1 g (addSg d gt b.base b.en b.rs).2.2 l else ((addSg d gt b.base b.en b.rs).1,((addSg d gt b.base b.en b.rs).2.1.remove gt.name).2,g):=rfl
  rw[e1] at h ⊢
  by_cases h1:(addSg d gt b.base b.en b.rs).1=0
  ·rw[if_pos h1] at h ⊢
   rw[rew2_other hy l _ _ (by rw[addSg_name];exact hnm) h,addSg_other _ _ _ _ _ (by rw[hnm];exact hy)]
  ·rw[if_neg h1]
   show ((addSg d gt b.base b.en b.rs).2.1.remove gt.name).2.find y=_
   rw[remove_other _ (by rw[hnm];exact hy),addSg_other _ _ _ _ _ (by rw[hnm];exact hy)]
theorem rew_not {d:Dk}{g:Sg}{nm2 y:Nm}{l:List Bt}(hy:y≠nm2)(h:(rewL d g nm2 l).1≠0):(rewL d g nm2 l).2.1.find y=d.find y:=by
 have h0:(rew0 d nm2).2.find y=d.find y:=by
  unfold rew0;split
  ·exact remove_other d hy
  ·rfl
 unfold rewL at h ⊢
 by_cases h1:(rew0 d nm2).1=0
 ·rw[if_pos h1] at h ⊢
  rw[←h0];unfold rew1 at h ⊢
  by_cases h2:((rew0 d nm2).2.make nm2).1=0
  ·rw[if_pos h2] at h ⊢
   rw[rew2_other hy l _ _ rfl h,make_other _ hy]
  ·rw[if_neg h2]
   exact make_other _ hy
 ·rw[if_neg h1]
  exact h0
open Go.Maps
def numElem:Value→Option (DU×List MemPlace)
 | .int .i64 n=>some (.lit (.int .i64 n),[])
 | _=>none
def numOf (o:Option Int):DU:=.lit (.int .i64 (o.getD 0))
theorem numElem_of (n:Int):numElem (.int .i64 n)=some (numOf (some n),[]):=rfl
theorem numElem_inv {v:Value}{o:Option Int}{ps:List MemPlace}(h:numElem v=some (numOf o,ps)):v = .int .i64 (o.getD 0):=by
 unfold numElem at h;split at h
 ·simp only[numOf,Option.some.injEq,Prod.mk.injEq,DataW.lit.injEq,Lit.int.injEq,true_and] at h
  rw[h.1]
 ·cases h
theorem zeroInt (w:World):(zeroValue 3).run Tryz.prog w = .ok (.int .i64 0) w:=by kernel_rfl
def NumsAt (w:World) (mb:Nat) (fs:List (Nm×Int)):Prop:=
 (fs.map (·.1)).Nodup∧∃ D:DU,w.ownsMap Tryz.prog 9 numElem mb fs.length D∧Maps.size D=fs.length∧
  ∀ x:Nm,D.atKey (.string x) (numOf none)=numOf (fs.lookup x)∧Maps.has D (.string x)=(fs.lookup x).isSome
theorem NumsAt.chg {S:Nat→Prop}{w w':World}{mb:Nat}{fs:List (Nm×Int)}(h:NumsAt w mb fs)(hc:Chg S w w')(hn:¬S mb):NumsAt w' mb fs:=by
 obtain⟨hnd,D,ho,rest⟩:=h
 exact⟨hnd,D,ownsMap_grown ho hc hn,rest⟩
theorem NumsAt.lt {w:World}{mb:Nat}{fs:List (Nm×Int)}(h:NumsAt w mb fs):mb<w.heap.size:=by
 obtain⟨_,D,ho,_⟩:=h
 exact ho.lt
theorem NumsAt.ne_row {w:World}{mb:Nat}{fs:List (Nm×Int)}(h:NumsAt w mb fs) {g:Nat}{cs:Array Value}{e:TypeId}{fr:Nat×Nat}(hg:w.heap[g]? = some (.cells cs e fr)):mb≠g:=by
 obtain⟨_,D,ho,_⟩:=h
 intro e1;subst e1;obtain⟨es,clock,hb,_⟩:=ho
 rw[hg] at hb;cases hb
theorem NumsAt.made (w:World):NumsAt (w.alloc (.map #[] 0)) w.heap.size []:=
 ⟨List.nodup_nil,_,World.ownsMap_made _ _ _ _,rfl,fun _=>⟨rfl,rfl⟩⟩
theorem NumsAt.look {w:World}{mb:Nat}{fs:List (Nm×Int)}(h:NumsAt w mb fs) {s:ByteArray}(hs:s.size≤maxLen) :
  (Instr.lookup 49 (.map (some mb)) (.string s) false).run Tryz.prog w = .ok (.int .i64 ((fs.lookup s.data.toList).getD 0)) w:=by
 obtain⟨_,D,ho,_,hD⟩:=h
 obtain⟨v,ps,hrun,hv⟩:=ho.lookup keyedS (t:=49) (e:=3) Tryz.underlying49 (zeroInt w) (zd:=numOf none) (zp:=[]) rfl (key_str hs)
 rw[(hD s.data.toList).1] at hv
 rw[hrun,numElem_inv hv]
theorem NumsAt.store {w:World}{mb:Nat}{fs:List (Nm×Int)}(h:NumsAt w mb fs)(hn:fs.length<maxLen) {s:ByteArray}(hs:s.size≤maxLen) (n:Int) :
  ∃ w',(Instr.mapUpdate 49 (.map (some mb)) (.string s) (.int .i64 n)).run Tryz.prog w = .ok () w'∧
   NumsAt w' mb ((fs.filter fun p=>decide (p.1≠s.data.toList))++[(s.data.toList,n)])∧Chg (fun i=>i=mb) w w':=by
 obtain⟨hnd,D,ho,hsz,hD⟩:=h
 obtain⟨w',hrun,r1,r2⟩:=ho.store keyedS (t:=49) (e:=3) Tryz.underlying49 hn (key_str hs) (numElem_of n)
 have hT:=ho.tidy keyedS
 have hsz2:Maps.size (D.put (.string s.data.toList) (numOf (some n)))=((fs.filter fun p=>decide (p.1≠s.data.toList))++[(s.data.toList,n)]).length:=by
  rw[size_put hT,(hD _).2,List.length_append,List.length_singleton]
  have:=filter_length s.data.toList hnd
  split at this
  ·rename_i h;rw[if_pos h];omega
  ·rename_i h;rw[if_neg h];omega
 refine⟨w',hrun,⟨put_fst_nodup hnd _ _,_,?_,hsz2,fun y=>?_⟩,mapTurned_chg r2⟩
 ·rw[←hsz2];exact ownsMap_tight r1
 ·rw[lookup_put];by_cases e:y=s.data.toList
  ·subst e;rw[atKey_put_same hT.isMap (keyLit _),has_put_same hT.isMap (keyLit _)]
   simp
  ·rw[atKey_put_other (lit_ne e),has_put_other (lit_ne e),(hD y).1,(hD y).2]
   simp[e]
end Go.Proofs.YtdjmifaidgbbaaaGreatDoor
