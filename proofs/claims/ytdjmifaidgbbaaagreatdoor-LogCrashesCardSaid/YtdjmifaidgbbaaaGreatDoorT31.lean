/-
  What Retain leaves of a log in order, where the disk does not fail; plain. (Of the logs' seat.)
-/
import Derived.Test.YtdjmifaidgbbaaaGreatDoorT30
set_option linter.unusedVariables false
set_option linter.unusedSimpArgs false
set_option maxHeartbeats 0
set_option maxRecDepth 200000
namespace Go.Proofs.YtdjmifaidgbbaaaGreatDoor
open Go.RowKit Go.Lib
theorem LgOk.restart {d:Dk}{g:Lg}{xs:List SgB}(h:LgOk d g xs) (m:Int)(h1:∀ x,xs.head? = some x→x.1.base≤m)(h2:m≤g.stop):LgOk d { g with start:=m } xs:=
 ⟨h.segs,h.ne,h.each,h.line,h.only,h.kn,h.ok,h1,h2⟩
theorem stop_tail (g:Lg) (s0 s1:Sg) (r:List Sg)(h:g.segs=s0::s1::r):({ g with segs:=s1::r }:Lg).stop=g.stop:=by
 unfold Lg.stop Lg.last;rw[h];simp
theorem drop_step {d:Dk}{g:Lg}{x0 x1:SgB}{r:List SgB}(h:LgOk d g (x0::x1::r))(hl:d.left = -1)(hb:x1.1.base≤g.start) :
  d.remove x0.1.name=(0,d.del x0.1.name)∧LgOk (d.del x0.1.name) { g with segs:=(x1::r).map (·.1) } (x1::r):=by
 have h0:=h.each x0 (by simp)
 obtain⟨sf,hf⟩:=h0.fl
 have hsg:g.segs=x0.1::x1.1::r.map (·.1):=h.segs
 have hlt:=h0.of.lt_next h.line.2.1
 have hne:∀ y∈x1::r,y.1.name≠x0.1.name:=fun y hy e=>by
  have hy':=h.each y (List.mem_cons_of_mem _ hy)
  rw[hy'.nm,h0.nm] at e;have h1:=segName_inj (by have:=hy'.hi;omega) (by have:=h0.hi;omega) e
  have h2:x0.1.next≤y.1.base:=by
   obtain⟨i,hi,hie⟩:=List.getElem_of_mem hy
   have h3:=lined_take h.of h.line (i+1) (by simpa using hi) x0 (by simp)
   have h4:((x0::x1::r)[i+1]'(by simpa using hi))=y:=hie
   rw[h4] at h3;exact h3
  have:=hy'.lo
  have:=h0.lo
  omega
 refine⟨?_,⟨rfl,by simp,fun y hy=>?_,h.line.2.2,fun n hn hs=>?_,h.kn,h.ok.del _,fun y hy=>?_,?_⟩⟩
 ·unfold Dk.remove Dk.at;rw[if_neg (by rw[does_true hl];simp),hf,step_same hl]
 ·exact (h.each y (List.mem_cons_of_mem _ hy)).other (by rw[find_del,if_neg (hne y hy)])
 ·have hs:((d.del x0.1.name).find (segName g.dir n)).isSome=true:=hs
  rw[find_del] at hs;split at hs
  ·cases hs
  ·next hnn=>
   obtain⟨y,hy,hyb⟩:=h.only n hn hs
   rcases List.mem_cons.1 hy with rfl | hy
   ·exfalso
    apply hnn
    rw[h0.nm,hyb,Int.toNat_natCast]
   ·exact⟨y,hy,hyb⟩
 ·obtain rfl:=Option.some.inj hy
  exact hb
 ·have e:=stop_tail g x0.1 x1.1 (r.map (·.1)) hsg
  show g.start≤({ g with segs:=x1.1::r.map (·.1) }:Lg).stop
  rw[e];exact h.hi
theorem del_len (d:Dk) (x:Nm):(d.del x).fs.length≤d.fs.length:=List.length_filter_le _ _
theorem LgOk.fit {d:Dk}{g:Lg}{xs:List SgB}(h:LgOk d g xs)(hdir:g.dir.length≤100):SegsFit g.segs:=by
 intro s hs;rw[h.segs] at hs;obtain⟨x,hx,rfl⟩:=List.mem_map.1 hs
 have hin:=h.each x hx
 have hfw:=h.few x hx
 refine⟨?_,by omega,?_⟩
 ·rw[hin.nm];exact segName_len ⟨g.dir.toArray⟩ _ (by show g.dir.toArray.size≤100;simp;exact hdir) (by have:=hin.hi;omega)
 ·obtain⟨sf,hf⟩:=hin.fl
  have h2:=used_le hf
  have h3:=h.ok.fits
  have h4:=h.ok.room
  have h2:(batBs x.2).length≤d.used:=h2
  rw[hin.of.size];omega
def lastPut (m:List (Nm×Int)) (r:Rec):List (Nm×Int):=if r.keyed=true then (m.filter fun p=>decide (p.1≠r.key.data.toList))++[(r.key.data.toList,r.off)] else m
def lastOf (l:List Rec):List (Nm×Int):=l.foldl lastPut []
theorem lastOf_snoc (l:List Rec) (r:Rec):lastOf (l++[r])=lastPut (lastOf l) r:=by unfold lastOf;rw[List.foldl_append];rfl
theorem lastPut_look (m:List (Nm×Int)) (r:Rec) (x:Nm):(lastPut m r).lookup x=if r.keyed=true∧x=r.key.data.toList then some r.off else m.lookup x:=by
 unfold lastPut;by_cases h:r.keyed=true
 ·rw[if_pos h,lookup_put]
  by_cases h2:x=r.key.data.toList
  ·rw[if_pos h2,if_pos ⟨h,h2⟩]
  ·rw[if_neg h2,if_neg (fun k=>h2 k.2)]
 ·rw[if_neg h,if_neg (fun k=>h k.1)]
theorem snocInd {α:Type}{P:List α→Prop}(h0:P [])(h1:∀ l a,P l→P (l++[a])):∀ l,P l:=by
 intro l;have key:∀ (r l:List α),P l→P (l++r):=by
  intro r;induction r with
  | nil=>intro l h;rw[List.append_nil];exact h
  | cons a r ih=>
   intro l h;have:=ih (l++[a]) (h1 l a h)
   rw[List.append_assoc] at this;exact this
 have:=key l [] h0
 rwa [List.nil_append] at this
theorem lastOf_some:∀ (l:List Rec) {x:Nm}{n:Int},(lastOf l).lookup x=some n→∃ r∈l,r.keyed=true∧r.key.data.toList=x∧r.off=n:=by
 refine snocInd ?_ ?_
 ·intro x n h;cases h
 ·intro l a ih x n h;rw[lastOf_snoc,lastPut_look] at h;split at h
  ·next hc=>exact⟨a,by simp,hc.1,hc.2.symm,Option.some.inj h⟩
  ·obtain⟨r,hr,h2⟩:=ih h
   exact⟨r,by simp[hr],h2⟩
theorem offUp_left:∀ {n:Int}{a b:List Rec},offUp n (a++b)→offUp n a
 | _,[],_,_=>trivial
 | _,_::_,_,h=>⟨h.1,offUp_left h.2⟩
theorem offUp_before:∀ {n:Int}{a b:List Rec},offUp n (a++b)→∀ x∈a,∀ y∈b,x.off<y.off
 | _,[],_,_,x,hx,_,_=>by cases hx
 | n,r::a,b,h,x,hx,y,hy=>by
  rcases List.mem_cons.1 hx with rfl | hx
  ·have:=offUp_mem h.2 y (List.mem_append_right _ hy)
   omega
  ·exact offUp_before h.2 x hx y hy
theorem lastOf_max:∀ (l:List Rec) {n:Int},offUp n l→∀ r∈l,r.keyed=true→∃ m,(lastOf l).lookup r.key.data.toList=some m∧r.off≤m:=by
 refine snocInd ?_ ?_
 ·intro n _ r hr;cases hr
 ·intro l a ih n hu r hr hk;rw[lastOf_snoc,lastPut_look];by_cases hc:a.keyed=true∧r.key.data.toList=a.key.data.toList
  ·rw[if_pos hc]
   refine⟨_,rfl,?_⟩
   rcases List.mem_append.1 hr with hr | hr
   ·have:=offUp_before hu r hr a (by simp)
    omega
   ·rw[List.mem_singleton.1 hr];exact Int.le_refl _
  ·rw[if_neg hc]
   rcases List.mem_append.1 hr with hr | hr
   ·exact ih (offUp_left hu) r hr hk
   ·exfalso
    have e:=List.mem_singleton.1 hr
    subst e;exact hc ⟨hk,rfl⟩
theorem offUp_sub:∀ {a b:List Rec}{n:Int},a.Sublist b→offUp n b→offUp n a
 | _,_,_,.slnil,_=>trivial
 | _,_,n,.cons x h,hb=>offUp_le (offUp_sub h hb.2) (by have:=hb.1;omega)
 | _,_,_,.cons_cons x h,hb=>⟨hb.1,offUp_sub h hb.2⟩
theorem offUp_filter (q:Rec→Bool):∀ {n:Int}{l:List Rec},offUp n l→offUp n (l.filter q)
 | _,[],_=>trivial
 | n,a::l,h=>by
  by_cases ha:q a=true
  ·rw[List.filter_cons_of_pos ha];exact⟨h.1,offUp_filter q h.2⟩
  ·rw[List.filter_cons_of_neg ha];exact offUp_le (offUp_filter q h.2) (by have:=h.1;omega)
theorem recsOf_keep (p:Rec→Bool):∀ l:List Bt,recsOf (l.map (Bt.keep p))=(recsOf l).filter p
 | []=>rfl
 | b::l=>by rw[List.map_cons,recsOf_cons,recsOf_cons,List.filter_append,recsOf_keep p l];rfl
def gonesN (p:Rec→Bool) (l:List Bt):Nat:=(recsOf l).length-((recsOf l).filter p).length
theorem gonesN_nil (p:Rec→Bool):gonesN p []=0:=rfl
theorem gonesN_append (p:Rec→Bool) (l m:List Bt):gonesN p (l++m)=gonesN p l+gonesN p m:=by
 unfold gonesN;rw[recsOf_append,List.filter_append,List.length_append,List.length_append];have:=List.length_filter_le p (recsOf l)
 have:=List.length_filter_le p (recsOf m)
 omega
theorem gonesN_cons (p:Rec→Bool) (b:Bt) (l:List Bt):gonesN p (b::l)=(b.rs.length-(b.rs.filter p).length)+gonesN p l:=by
 have h:=gonesN_append p [b] l
 have e:gonesN p [b]=b.rs.length-(b.rs.filter p).length:=by unfold gonesN;rw[recsOf_cons];simp[recsOf]
 rw[←e,←h];rfl
theorem keep_none {p:Rec→Bool}:∀ {l:List Bt},gonesN p l=0→l.map (Bt.keep p)=l
 | [],_=>rfl
 | b::l,h=>by
  rw[gonesN_cons] at h;have h1:=List.length_filter_le p b.rs
  have h2:b.rs.filter p=b.rs:=List.Sublist.eq_of_length List.filter_sublist (by omega)
  rw[List.map_cons,keep_none (l:=l) (by omega)]
  unfold Bt.keep;rw[h2]
theorem keep_ok {p:Rec→Bool}{l:List Bt}(h:∀ b∈l,b.Ok):∀ b∈l.map (Bt.keep p),b.Ok:=fun b hb=>by
 obtain⟨c,hc,rfl⟩:=List.mem_map.1 hb
 exact (h c hc).keep p
theorem keep_len {p:Rec→Bool}:∀ l:List Bt,(batBs (l.map (Bt.keep p))).length≤(batBs l).length
 | []=>Nat.le_refl _
 | b::l=>by
  rw[List.map_cons,batBs_cons,batBs_cons,List.length_append,List.length_append];have h1:=keep_len (p:=p) l
  have h2:(b.keep p).bytes.length≤b.bytes.length:=by
   have:=encBody_filter p b.base b.en b.rs
   unfold Bt.bytes Bt.keep encAll;have f4:∀ n,(four n).length=4:=fun n=>rfl
   simp only[List.length_append,List.length_cons,List.length_nil,f4]
   omega
  omega
theorem seg_new {dir:List UInt8}{a b:Nat}:segName dir a≠segName dir b++dotnew:=by
 intro h;have e1:segName dir a=(dir++[47]++pad a++[46,108,111])++[103]:=by unfold segName dotlog;simp
 have e2:segName dir b++dotnew=(segName dir b++[46,110,101])++[119]:=by unfold dotnew;simp
 rw[e1,e2] at h;exact absurd (List.append_inj' h rfl).2 (by decide)
theorem lined_swap:∀ {ys:List SgB}{x x':SgB}{r:List SgB},lined (ys++x::r)→x'.1.base=x.1.base→x'.1.next=x.1.next→(x.2≠[]→x'.2≠[])→lined (ys++x'::r)
 | [],x,x',[],_,_,_,_=>trivial
 | [],x,x',y::r,h,_,h2,h3=>⟨by rw[h2];exact h.1,h3 h.2.1,h.2.2⟩
 | [a],x,x',r,h,h1,h2,h3=>⟨by rw[h1];exact h.1,h.2.1,lined_swap (ys:=[]) h.2.2 h1 h2 h3⟩
 | a::b::ys,x,x',r,h,h1,h2,h3=>⟨h.1,h.2.1,lined_swap (ys:=b::ys) h.2.2 h1 h2 h3⟩
theorem lined_distinct:∀ {ys:List SgB}{x:SgB}{r:List SgB},(∀ z∈ys++x::r,SgOf z.1 z.2)→lined (ys++x::r)→(∀ y∈ys,y.1.base<x.1.base)∧∀ y∈r,x.1.base<y.1.base:=by
 have key:∀ (r:List SgB) (x:SgB),(∀ z∈x::r,SgOf z.1 z.2)→lined (x::r)→∀ y∈r,x.1.base<y.1.base:=by
  intro r;induction r with
  | nil=>intro x _ _ y hy;cases hy
  | cons a r ih=>
   intro x hof hl y hy;have h1:=(hof x (by simp)).lt_next hl.2.1
   have h2:a.1.base=x.1.next:=hl.1
   rcases List.mem_cons.1 hy with rfl | hy
   ·omega
   ·have:=ih a (fun z hz=>hof z (List.mem_cons_of_mem _ hz)) hl.2.2 y hy
    omega
 intro ys;induction ys with
 | nil=>intro x r hof hl;exact⟨fun y hy=>(by cases hy),key r x hof hl⟩
 | cons a ys ih=>
  intro x r hof hl;have hl2:lined (ys++x::r):=by
   rcases ys with _ | ⟨b,ys⟩
   ·exact hl.2.2
   ·exact hl.2.2
  obtain⟨h1,h2⟩:=ih (fun z hz=>hof z (List.mem_cons_of_mem _ hz)) hl2
  refine⟨fun y hy=>?_,h2⟩
  rcases List.mem_cons.1 hy with rfl | hy
  ·exact key (ys++x::r) y hof hl x (by simp)
  ·exact h1 y hy
theorem comp_step {p:Rec→Bool}{d d':Dk}{g:Lg}{s':Sg}{ys r:List SgB}{x:SgB}(h:LgOk d g (ys++x::r))(hr:r≠[])(hd:d'.Ok)(hw:RewD d d' x.1 s' (x.1.name++dotnew) (x.2.map (Bt.keep p))) :
  LgOk d' { g with segs:=g.segs.set ys.length s' } (ys++(s',x.2.map (Bt.keep p))::r)∧({ g with segs:=g.segs.set ys.length s' }:Lg).stop=g.stop:=by
 have hx:=h.each x (by simp)
 have hset:g.segs.set ys.length s'=ys.map (·.1)++s'::r.map (·.1):=by
  rw[h.segs,List.map_append,List.map_cons];rw[List.set_append_right _ _ (by simp)]
  simp
 obtain⟨hd1,hd2⟩:=lined_distinct h.of h.line
 have hnx:s'.next=x.1.next:=by
  rw[hw.of.next,hx.of.next,hw.base,lastEnd_map (Bt.keep p) (fun _=>rfl)]
 have hstop:({ g with segs:=g.segs.set ys.length s' }:Lg).stop=g.stop:=by
  obtain⟨r1,z,rfl⟩:∃ r1 z,r=r1++[z]:=by
   rcases List.eq_nil_or_concat r with h0 | ⟨r1,z,h0⟩
   ·exact absurd h0 hr
   ·exact⟨r1,z,by rw[h0,List.concat_eq_append]⟩
  unfold Lg.stop Lg.last;simp only[hset]
  rw[h.segs];simp
 have hnm:∀ y∈ys++r,y.1.name≠x.1.name∧y.1.name≠x.1.name++dotnew:=fun y hy=>by
  have hym:y∈ys++x::r:=by
   rcases List.mem_append.1 hy with hy | hy
   ·exact List.mem_append_left _ hy
   ·exact List.mem_append_right _ (List.mem_cons_of_mem _ hy)
  have hy':=h.each y hym
  refine⟨fun e=>?_,fun e=>?_⟩
  ·rw[hy'.nm,hx.nm] at e;have h1:=segName_inj (by have:=hy'.hi;omega) (by have:=hx.hi;omega) e
   have:=hy'.lo
   have:=hx.lo
   rcases List.mem_append.1 hy with hy | hy
   ·have:=hd1 y hy;omega
   ·have:=hd2 y hy;omega
  ·rw[hy'.nm,hx.nm] at e;exact seg_new e
 refine⟨⟨?_,by simp,fun y hy=>?_,?_,fun n hn hs=>?_,h.kn,hd,fun y hy=>?_,?_⟩,hstop⟩
 ·show g.segs.set _ _=_
  rw[hset,List.map_append,List.map_cons]
 ·have hy:y∈ys++(s',x.2.map (Bt.keep p))::r:=hy
  rw[List.mem_append,List.mem_cons] at hy;rcases hy with hy | rfl | hy
  ·exact (h.each y (by simp[hy])).other (hw.same _ (hnm y (by simp[hy])).1 (hnm y (by simp[hy])).2)
  ·refine⟨hw.of,?_,?_,?_,?_⟩
   ·show s'.name=segName g.dir s'.base.toNat
    rw[hw.name,hw.base,hx.nm]
   ·show 0≤s'.base
    rw[hw.base];exact hx.lo
   ·show s'.base≤_
    rw[hw.base];exact hx.hi
   ·show d'.has s'.name _
    rw[hw.name];exact hw.has
  ·exact (h.each y (by simp[hy])).other (hw.same _ (hnm y (by simp[hy])).1 (hnm y (by simp[hy])).2)
 ·exact lined_swap h.line hw.base hnx (fun h0 h1=>h0 (List.map_eq_nil_iff.1 h1))
 ·have hs:(d'.find (segName g.dir n)).isSome=true:=hs
  by_cases e:segName g.dir n=x.1.name
  ·refine⟨_,List.mem_append_right _ (List.mem_cons_self ..),?_⟩
   rw[hx.nm] at e;have:=segName_inj hn (by have:=hx.hi;omega) e
   show s'.base=_
   rw[hw.base];have:=hx.lo
   omega
  ·rw[hw.same _ e (by rw[hx.nm];exact seg_new)] at hs
   obtain⟨y,hy,hyb⟩:=h.only n hn hs
   rw[List.mem_append,List.mem_cons] at hy;rcases hy with hy | rfl | hy
   ·exact⟨y,List.mem_append_left _ hy,hyb⟩
   ·exfalso
    apply e
    rw[hx.nm,hyb,Int.toNat_natCast]
   ·exact⟨y,List.mem_append_right _ (List.mem_cons_of_mem _ hy),hyb⟩
 ·rcases ys with _ | ⟨a,ys⟩
  ·obtain rfl:=Option.some.inj hy
   show s'.base≤g.start
   rw[hw.base];exact h.lo x rfl
  ·exact h.lo y hy
 ·rw[hstop];exact h.hi
def Lg.seg (g:Lg) (i:Nat):Sg:=(g.segs[i]?).getD ⟨[],0,[],0⟩
def compGo (p:Rec→Bool):List (List Bt)→Nat→Nat→Dk→Lg→Nat×Nat×Dk×Lg
 | [],_,n,d,g=>(0,n,d,g)
 | l::r,i,n,d,g=>
  if gonesN p l=0 then compGo p r (i+1) n d g else
   if (rewL d (g.seg i) ((g.seg i).name++dotnew) (l.map (Bt.keep p))).1=0 then
    compGo p r (i+1) (n+gonesN p l) (rewL d (g.seg i) ((g.seg i).name++dotnew) (l.map (Bt.keep p))).2.1 { g with segs:=g.segs.set i (rewL d (g.seg i) ((g.seg i).name++dotnew) (l.map (Bt.keep p))).2.2 }
   else ((rewL d (g.seg i) ((g.seg i).name++dotnew) (l.map (Bt.keep p))).1,n,(rewL d (g.seg i) ((g.seg i).name++dotnew) (l.map (Bt.keep p))).2.1,
    ({ g with segs:=g.segs.set i (rewL d (g.seg i) ((g.seg i).name++dotnew) (l.map (Bt.keep p))).2.2 }:Lg).fail (rewL d (g.seg i) ((g.seg i).name++dotnew) (l.map (Bt.keep p))).1)
theorem LgOk.segAt {d:Dk}{g:Lg}{ys r:List SgB}{x:SgB}(h:LgOk d g (ys++x::r)):g.seg ys.length=x.1:=by
 unfold Lg.seg;rw[h.segs];simp
def compLg (now age:Int) (xs:List SgB) (d:Dk) (g:Lg):Nat×Nat×Dk×Lg:=
 if (flushLg d g).1=0 then compGo (keepR (lastOf (recsOf (allBts xs))) (wrap64 (now-age))) ((xs.take (xs.length-1)).map (·.2)) 0 0 (flushLg d g).2.1 (flushLg d g).2.2
 else ((flushLg d g).1,0,(flushLg d g).2.1,(flushLg d g).2.2)
open Go.Maps
theorem lastOf_len:∀ l:List Rec,(lastOf l).length≤l.length:=by
 refine snocInd (Nat.le_refl _) ?_
 intro l a ih;rw[lastOf_snoc,List.length_append];unfold lastPut;split
 ·have:=List.length_filter_le (fun p:Nm×Int=>decide (p.1≠a.key.data.toList)) (lastOf l)
  rw[List.length_append];simp only[List.length_singleton]
  omega
 ·simp only[List.length_singleton]
  omega
theorem NumsAt.next {w:World}{mb:Nat}{l:List Rec}(h:NumsAt w mb (lastOf l)) (r:Rec)(hk:r.keyed=true)(hl:l.length<maxLen)(hs:r.key.size≤maxLen) :
  ∃ w',(Instr.mapUpdate 49 (.map (some mb)) (.string r.key) (.int .i64 r.off)).run Tryz.prog w = .ok () w'∧NumsAt w' mb (lastOf (l++[r]))∧Chg (fun i=>i=mb) w w':=by
 have h1:=lastOf_len l
 obtain⟨w',hr,hn,hc⟩:=h.store (by omega) hs r.off
 refine⟨w',hr,?_,hc⟩
 rw[lastOf_snoc];unfold lastPut;rw[if_pos hk]
 exact hn
theorem lastOf_not {l:List Rec}{r:Rec}(hk:r.keyed=false):lastOf (l++[r])=lastOf l:=by
 rw[lastOf_snoc];unfold lastPut;rw[if_neg (by simp[hk])]
theorem OwnR.ne_map {w:World}{e:TypeId}{a:Option Addr}{n c mb:Nat}{rs:List Rec}{fs:List (Nm×Int)}(h:OwnR e w (.slice a n c) rs)(hm:NumsAt w mb fs):∀ g,a=some ⟨g,0,none⟩→g≠mb:=by
 intro g hg he;rcases h.2 with ⟨hv,_⟩ | ⟨g',cap',cur',hv,_,hc,_⟩
 ·have:=(Value.slice.inj hv).1
  rw[hg] at this;cases this
 ·have h1:=(Value.slice.inj hv).1
  rw[hg] at h1;obtain rfl:g=g':=by have:=Option.some.inj h1;exact (Addr.mk.inj this).1
  exact hm.ne_row hc he.symm
theorem readGo_whole:∀ (l:List Bt) (f:Bool) (m:Int),((batBs l).length:Int)≤m→m≤9223372036854775807→readGo f m l=l
 | [],_,_,_,_=>rfl
 | b::l,f,m,h,hm=>by
  rw[batBs_cons,List.length_append] at h;unfold readGo;rw[if_neg (by omega)]
  have e:wrap64 (m-(b.bytes.length:Nat))=m-(b.bytes.length:Nat):=by unfold wrap64;omega
  rw[e,readGo_whole l false _ (by omega) (by omega)]
theorem readL_whole {base:Int}{l:List Bt}(hok:∀ b∈l,b.Ok)(hup:rising base l) {m:Int}(h:((batBs l).length:Int)≤m)(hm:m≤9223372036854775807):readL l base m=l:=by
 have e:l.dropWhile (fun b=>decide (b.en≤base))=l:=by
  cases l with
  | nil=>rfl
  | cons b l=>
   have h1:=(hok b (List.mem_cons_self ..)).nums.lt
   have h2:=hup.1
   rw[List.dropWhile_cons_of_neg (by simp;omega)]
 unfold readL;rw[e];exact readGo_whole l true m h hm
theorem LgS.segIs {B:Nat→Prop}{w:World}{p l:Nat}{S:Nat→Prop}{sv:Value}{ss:List (Nat×Value)}{d:Dk}{g:Lg}{xs:List SgB}(h:LgS B w p l S sv ss d g)(hk:LgOk d g xs) {i:Nat}(hi:i<ss.length) {x:SgB}(hx:xs[i]? = some x):g.segs[i]'(h.len ▸ hi)=x.1:=by
 have h1:g.segs[i]? = some x.1:=by rw[hk.segs,List.getElem?_map,hx];rfl
 rw[List.getElem?_eq_getElem (h.len ▸ hi)] at h1
 exact Option.some.inj h1
theorem SgIn.nameLen {d:Dk}{dir:List UInt8}{x:SgB}(h:SgIn d dir x)(hdir:dir.length≤100):x.1.name.length≤200:=by
 have h1:=pad_len (n:=x.1.base.toNat) (by have:=h.hi;omega)
 rw[h.nm];unfold segName dotlog;simp only[List.length_append,List.length_cons,List.length_nil]
 omega
theorem LgS.readAll {B:Nat→Prop}{w:World}{p l:Nat}{S:Nat→Prop}{sv:Value}{ss:List (Nat×Value)}{d:Dk}{g:Lg}{xs:List SgB}(h:LgS B w p l S sv ss d g)(hk:LgOk d g xs)(hdir:g.dir.length≤100) {i:Nat}(hi:i<ss.length) {x:SgB}(hx:xs[i]? = some x) :
  Calls Tryz.prog 65 #[.pointer (some ⟨ss[i].1,0,none⟩),.int .i64 x.1.base,.int .i64 1048576] w fun e w'=>∃ u,e = .returned (.tuple #[u,.nilIface])∧ReadOwn w.heap.size w' u x.2∧Chg Nil w w':=by
 have hin:=hk.each x (List.mem_of_getElem? hx)
 have h1:=h.seg i hi
 rw[h.segIs hk hi hx] at h1
 obtain⟨sf,hf⟩:=hin.fl
 have h2:=used_le hf
 have h3:=hk.ok.fits
 have h4:=hk.ok.room
 have h2:(batBs x.2).length≤d.used:=h2
 have h5:=sread_own h1 (by have:=hin.nameLen hdir;omega) x.2 hin.of sf hf x.1.base 1048576
 rw[readL_whole hin.of.ok hin.of.up (by omega) (by omega)] at h5
 exact h5
theorem LgS.baseAt {B:Nat→Prop}{w:World}{p l:Nat}{S:Nat→Prop}{sv:Value}{ss:List (Nat×Value)}{d:Dk}{g:Lg}{xs:List SgB}(h:LgS B w p l S sv ss d g)(hk:LgOk d g xs) {i:Nat}(hi:i<ss.length) {x:SgB}(hx:xs[i]? = some x) :
  Calls Tryz.prog 57 #[.pointer (some ⟨ss[i].1,0,none⟩)] w fun e w'=>e = .returned (.int .i64 x.1.base)∧w'=w:=by
 have h1:=h.m i hi
 rw[h.segIs hk hi hx] at h1
 exact sbase_any h1
theorem flush_done {d:Dk}{g:Lg}{xs:List SgB}(h:LgOk d g xs)(h0:(flushLg d g).1=0)(hok:(flushLg d g).2.1.Ok):LgOk (flushLg d g).2.1 { g with safe:=g.stop } xs∧(flushLg d g).2.2 = { g with safe:=g.stop }:=by
 unfold flushLg at h0 hok ⊢
 by_cases hd:g.down=true
 ·rw[if_pos hd] at h0;cases h0
 rw[if_neg hd] at h0 hok ⊢
 by_cases hs:(d.sync g.last.name).1=0
 ·rw[if_pos hs] at h0 hok ⊢
  obtain⟨f,hf,he⟩:=sync_done hs
  have hfind:∀ y,∃ k:Fl→Nat,(d.sync g.last.name).2.find y=(d.find y).map fun q=>(⟨q.bytes,k q⟩:Fl):=by
   intro y;rw[he,find_turn,step_find];by_cases e:y=g.last.name
   ·rw[if_pos e,e,hf]
    exact⟨fun _=>f.bytes.length,rfl⟩
   ·rw[if_neg e]
    exact⟨fun q=>q.safe,by cases d.find y<;>rfl⟩
  refine⟨⟨h.segs,h.ne,fun y hy=>?_,h.line,fun n hn hs=>?_,h.kn,hok,h.lo,h.hi⟩,rfl⟩
  ·have hin:=h.each y hy
   refine⟨hin.of,hin.nm,hin.lo,hin.hi,?_⟩
   obtain⟨sf,hs⟩:=hin.fl
   obtain⟨k,hk⟩:=hfind y.1.name
   exact⟨_,by rw[hk,hs];rfl⟩
  ·refine h.only n hn ?_
   have hs:((d.sync g.last.name).2.find (segName g.dir n)).isSome=true:=hs
   obtain⟨k,hk⟩:=hfind (segName g.dir n)
   rw[hk] at hs;show (d.find (segName g.dir n)).isSome=true
   cases hq:d.find (segName g.dir n) with
   | none=>rw[hq] at hs;cases hs
   | some _=>rfl
 ·rw[if_neg hs] at h0
  exact absurd h0 hs
def Bm.kp (p:Rec→Bool) (m:Bm):Bm:=⟨m.b.keep p,m.ra,m.rc⟩
def kpTo (p:Rec→Bool) (ms:List Bm) (j:Nat):List Bm:=(ms.take j).map (Bm.kp p)++ms.drop j
theorem kpTo_zero (p:Rec→Bool) (ms:List Bm):kpTo p ms 0=ms:=by unfold kpTo;simp
theorem kpTo_all (p:Rec→Bool) (ms:List Bm) {j:Nat}(h:ms.length≤j):kpTo p ms j=ms.map (Bm.kp p):=by unfold kpTo;rw[List.take_of_length_le h,List.drop_of_length_le h,List.append_nil]
theorem kpTo_len (p:Rec→Bool) (ms:List Bm) (j:Nat):(kpTo p ms j).length=ms.length:=by unfold kpTo;rw[List.length_append,List.length_map,List.length_take,List.length_drop];omega
theorem kpTo_at (p:Rec→Bool) (ms:List Bm) {j:Nat}(h:j<ms.length):(kpTo p ms j)[j]? = some ms[j]:=by
 unfold kpTo;rw[List.getElem?_append_right (by rw[List.length_map,List.length_take];omega),List.length_map,List.length_take,List.getElem?_drop]
 have e:j+(j-min j ms.length)=j:=by omega
 rw[e,List.getElem?_eq_getElem h]
theorem kpTo_next (p:Rec→Bool) (ms:List Bm) {j:Nat}(h:j<ms.length):(kpTo p ms j).set j (ms[j].kp p)=kpTo p ms (j+1):=by
 unfold kpTo;have e:ms.drop j=ms[j]::ms.drop (j+1):=(List.getElem_cons_drop (h:=h)).symm
 rw[List.set_append_right _ _ (by rw[List.length_map,List.length_take];omega),List.length_map,List.length_take,e]
 have e2:j-min j ms.length=0:=by omega
 rw[e2,List.set_cons_zero,List.take_succ_eq_append_getElem h,List.map_append,List.append_assoc]
 rfl
theorem c3_set:∀ (X:List Bm) (j:Nat)(h:j<X.length) (p:Rec→Bool),(X.flatMap Bm.c3).set (j*3+2) (.slice X[j].ra (X[j].b.rs.filter p).length X[j].rc)=(X.set j (X[j].kp p)).flatMap Bm.c3
 | [],j,h,_=>by simp at h
 | a::X,0,h,p=>rfl
 | a::X,j+1,h,p=>by
  have ih:=c3_set X j (by simpa using h) p
  have hl:a.c3.length=3:=rfl
  have e:(j+1)*3+2=a.c3.length+(j*3+2):=by rw[hl];omega
  rw[List.flatMap_cons,List.set_cons_succ,List.flatMap_cons,e,List.set_append,if_neg (by omega),Nat.add_sub_cancel_left]
  simp only[List.getElem_cons_succ]
  rw[ih]
theorem OwnM.put {w:World}{g n cap:Nat}{X:List Bm}(h:OwnM w (.slice (some ⟨g,0,none⟩) n cap) X) (j:Nat)(hj:j<X.length) (p:Rec→Bool) :
  OwnM (w.setCell ⟨g,j*3+2,none⟩ (.slice X[j].ra (X[j].b.rs.filter p).length X[j].rc)) (.slice (some ⟨g,0,none⟩) n cap) (X.set j (X[j].kp p)):=by
 have hl:(X.flatMap Bm.c3).length=X.length*3:=fm_len (f:=Bm.c3) (n:=3) (fun _=>rfl) X
 have h1:=ownsRow_set h (j*3+2) (by omega) (.slice X[j].ra (X[j].b.rs.filter p).length X[j].rc)
 unfold OwnM;rw[List.length_set,←c3_set X j hj p]
 exact h1
theorem OwnM.free {w:World}{g n cap:Nat}{X:List Bm}(h:OwnM w (.slice (some ⟨g,0,none⟩) n cap) X) (j:Nat):w.frozen? ⟨g,j,none⟩=false:=by
 rcases h.2 with ⟨hv,_⟩ | ⟨g',cap',cur',hv,_,hg,_⟩
 ·cases hv
 ·have h1:=(Value.slice.inj hv).1
  obtain rfl:g=g':=by have:=Option.some.inj h1;exact (Addr.mk.inj this).1
  simp[World.frozen?,hg]
theorem row_kp (p:Rec→Bool) (m:Bm):(rowOf (m.kp p)).ownBlock=(rowOf m).ownBlock:=by
 obtain⟨b,ra,rc⟩:=m
 cases ra<;>rfl
theorem kpTo_mem {p:Rec→Bool}{ms:List Bm}{j:Nat}{q:Bm}(h:q∈kpTo p ms j):∃ m∈ms,(rowOf q).ownBlock=(rowOf m).ownBlock:=by
 unfold kpTo at h;rcases List.mem_append.1 h with h | h
 ·obtain⟨m,hm,rfl⟩:=List.mem_map.1 h
  exact⟨m,List.mem_of_mem_take hm,row_kp p m⟩
 ·exact⟨q,List.mem_of_mem_drop h,rfl⟩
theorem BmOwn.step {w w':World}{p:Rec→Bool}{ms:List Bm}{j bk:Nat}(hap:ms.Pairwise fun a b=>∀ k,(rowOf a).ownBlock=some k→(rowOf b).ownBlock≠some k)(h:∀ q∈kpTo p ms j,OwnR 37 w (rowOf q) q.b.rs)(hj:j<ms.length)
  (hc:Chg (fun i=>i=bk∨(rowOf ms[j]).ownBlock=some i) w w')(hbk:∀ q∈ms,(rowOf q).ownBlock≠some bk)(hnew:OwnR 37 w' (rowOf (ms[j].kp p)) (ms[j].kp p).b.rs):∀ q∈kpTo p ms (j+1),OwnR 37 w' (rowOf q) q.b.rs:=by
 have hold:∀ q∈kpTo p ms j,(∀ k,(rowOf q).ownBlock=some k→(rowOf ms[j]).ownBlock≠some k)→OwnR 37 w' (rowOf q) q.b.rs:=fun q hq hd=>by
  refine ownsRow_chg (h q hq) hc (fun k hk hb=>?_)
  rcases hb with rfl | hb
  ·obtain⟨m,hm,he⟩:=kpTo_mem hq
   exact hbk m hm (he ▸ hk)
  ·exact hd k hk hb
 rw[List.pairwise_iff_getElem] at hap;intro q hq;unfold kpTo at hq;rcases List.mem_append.1 hq with hq | hq
 ·rw[List.take_succ_eq_append_getElem hj,List.map_append,List.mem_append] at hq
  rcases hq with hq | hq
  ·obtain⟨m,hm,rfl⟩:=List.mem_map.1 hq
   refine hold _ (List.mem_append_left _ (List.mem_map.2 ⟨m,hm,rfl⟩)) (fun k hk=>?_)
   rw[row_kp] at hk;obtain⟨t,ht,rfl⟩:=List.getElem_of_mem hm
   rw[List.length_take] at ht;rw[List.getElem_take] at hk;exact hap t j (by omega) hj (by omega) k hk
  ·rw[List.map_singleton,List.mem_singleton] at hq;rw[hq];exact hnew
 ·have e:ms.drop j=ms[j]::ms.drop (j+1):=(List.getElem_cons_drop (h:=hj)).symm
  refine hold q (List.mem_append_right _ (by rw[e];exact List.mem_cons_of_mem _ hq)) (fun k hk hk2=>?_)
  obtain⟨t,ht,rfl⟩:=List.getElem_of_mem hq
  rw[List.getElem_drop] at hk;rw[List.length_drop] at ht;exact hap j (j+1+t) hj (by omega) (by omega) k hk2 hk
theorem gonesN_snoc (p:Rec→Bool) {l:List Bt}{j:Nat}(h:j<l.length):gonesN p (l.take (j+1))=gonesN p (l.take j)+(l[j].rs.length-(l[j].rs.filter p).length):=by
 rw[List.take_succ_eq_append_getElem h,gonesN_append,gonesN_cons,gonesN_nil,Nat.add_zero]
theorem bms_of {w:World}{ua:Option Addr}{uc n:Nat}{X:List Bm}(h:OwnM w (.slice ua n uc) X)(hr:∀ q∈X,OwnR 37 w (rowOf q) q.b.rs):BmsAt w ua X:=by
 obtain⟨a',c',hv,-,hcell⟩:=h.val
 obtain⟨rfl,-,-⟩:=Value.slice.inj hv
 refine⟨fun i hi=>?_,fun m hm=>?_⟩
 ·obtain⟨g,hg,hz⟩:=hcell i hi
  exact⟨g,0,hg,fun t u ht=>by rw[Nat.zero_add];exact hz t u ht⟩
 ·have h1:=hr m hm
  obtain⟨a2,c2,he,hrc,_⟩:=h1.recs
  obtain⟨h2,-,-⟩:=Value.slice.inj he
  rw[h2];exact hrc
theorem put_some (n:Nat):1≤(put n).length:=by
 by_cases h:n<128
 ·rw[put_lo h];simp
 ·rw[put_hi (by omega)];simp
theorem recs_small (base:Int):∀ rs:List Rec,2*rs.length≤(encRecs base rs).length
 | []=>Nat.zero_le _
 | r::rs=>by
  have h:=recs_small base rs
  have h1:=put_some (r.off-base).toNat
  have h2:=put_some r.time.toNat
  simp only[encRecs,encRec,List.length_append,List.length_cons]
  omega
theorem bts_small:∀ l:List Bt,2*(recsOf l).length≤(batBs l).length
 | []=>Nat.zero_le _
 | b::l=>by
  have h:=bts_small l
  have h1:=recs_small b.base b.rs
  have h2:(encRecs b.base b.rs).length≤b.bytes.length:=by
   unfold Bt.bytes encAll encBody;simp only[List.length_append]
   omega
  rw[recsOf_cons,batBs_cons,List.length_append,List.length_append];omega
theorem LgOk.gones {d:Dk}{g:Lg}{xs:List SgB}(h:LgOk d g xs) (p:Rec→Bool):∀ x∈xs,(recsOf x.2).length≤600000∧gonesN p x.2≤600000∧∀ j,gonesN p (x.2.take j)≤600000:=fun x hx=>by
 obtain⟨sf,hf⟩:=(h.each x hx).fl
 have h1:=bts_small x.2
 have h2:=used_le hf
 have h3:=h.ok.fits
 have h4:=h.ok.room
 have h2:(batBs x.2).length≤d.used:=h2
 refine⟨by omega,by unfold gonesN;omega,fun j=>?_⟩
 have h5:recsOf x.2=recsOf (x.2.take j)++recsOf (x.2.drop j):=by rw[←recsOf_append,List.take_append_drop]
 have h6:=congrArg List.length h5
 rw[List.length_append] at h6;unfold gonesN;omega
theorem recsOf_snoc (l:List Bt) (b:Bt):recsOf (l++[b])=recsOf l++b.rs:=by rw[recsOf_append,recsOf_cons];simp[recsOf]
theorem allBts_at {xs:List SgB}{i:Nat}(hi:i<xs.length):allBts xs=allBts (xs.take i)++(xs[i].2++allBts (xs.drop (i+1))):=by
 have e:xs=xs.take i++xs[i]::xs.drop (i+1):=by rw[List.getElem_cons_drop,List.take_append_drop]
 conv=>lhs;rw[e]
 rw[allBts_append,allBts_cons]
theorem allBts_take {xs:List SgB}{i:Nat}(hi:i<xs.length):allBts (xs.take (i+1))=allBts (xs.take i)++xs[i].2:=by
 rw[List.take_succ_eq_append_getElem hi,allBts_append,allBts_cons]
 simp[allBts]
theorem fill_len {xs:List SgB}{i j:Nat} (k:Nat)(hi:i<xs.length)(hj:j<xs[i].2.length):(recsOf (allBts (xs.take i))++recsOf (xs[i].2.take j)++(xs[i].2[j]).rs.take k).length≤(recsOf (allBts xs)).length:=by
 have e:xs[i].2=xs[i].2.take j++xs[i].2[j]::xs[i].2.drop (j+1):=by rw[List.getElem_cons_drop,List.take_append_drop]
 have e2:recsOf (allBts xs)=recsOf (allBts (xs.take i))++(recsOf xs[i].2++recsOf (allBts (xs.drop (i+1)))):=by rw[allBts_at hi,recsOf_append,recsOf_append]
 have e3:(recsOf xs[i].2).length=(recsOf (xs[i].2.take j)).length+((xs[i].2[j]).rs.length+(recsOf (xs[i].2.drop (j+1))).length):=by
  conv=>lhs;rw[e]
  rw[recsOf_append,recsOf_cons,List.length_append,List.length_append]
 rw[e2];simp only[List.length_append,List.length_take]
 omega
theorem LgOk.recsFew {d:Dk}{g:Lg}{xs:List SgB}(h:LgOk d g xs)(hx:xs.length≤9999):(recsOf (allBts xs)).length≤50000000000:=by
 have h1:=recsOf_len h.bts.2
 have h2:∀ ys:List SgB,(∀ y∈ys,y.2.length≤99999)→(allBts ys).length≤ys.length*99999:=by
  intro ys;induction ys with
  | nil=>intro _;simp[allBts]
  | cons a ys ih=>
   intro h;have h3:=ih (fun y hy=>h y (List.mem_cons_of_mem _ hy))
   have h4:=h a (List.mem_cons_self ..)
   rw[allBts_cons,List.length_append,List.length_cons,Nat.add_mul];omega
 have h3:=h2 xs (fun y hy=>(h.few y hy).1)
 omega
end Go.Proofs.YtdjmifaidgbbaaaGreatDoor
