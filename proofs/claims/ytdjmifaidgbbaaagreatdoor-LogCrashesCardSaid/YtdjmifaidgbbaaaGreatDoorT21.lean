/-
  A disk of one file, and of two, plain: what becomes of a segment there. (Of the segments' seat.)
-/
import Derived.Test.YtdjmifaidgbbaaaGreatDoorT20
set_option linter.unusedVariables false
set_option linter.unusedSimpArgs false
set_option maxHeartbeats 0
set_option maxRecDepth 200000
namespace Go.Proofs.YtdjmifaidgbbaaaGreatDoor
open Go.RowKit Go.Lib
theorem step_same {d:Dk}(h:d.left = -1):d.step=d:=by
 unfold Dk.step stepL;rw[h];cases d
 simp only at h
 subst h;rfl
theorem does_true {d:Dk}(h:d.left = -1):d.does=true:=by unfold Dk.does didB;rw[h];rfl
theorem addSg_ok {d:Dk}{g:Sg}{b:Bt}(hb:b.Ok)(hn:g.next≤b.base):addSg d g b.base b.en b.rs=if (d.add g.name b.bytes).1=0 then (0,(d.add g.name b.bytes).2,g.noted b.base b.en b.rs b.bytes.length) else ((d.add g.name b.bytes).1,(d.add g.name b.bytes).2,g):=by
 unfold addSg;rw[if_neg (by simpa using hb.err),if_neg (by omega)]
 rfl
theorem digits_ok:∀ n:Nat,(decDigits n).all (cutDisk.contains ·)=true:=by
 intro n;induction n using Nat.strongRecOn with
 | ind n ih=>
  have key:∀ u,u<10→cutDisk.contains (UInt8.ofNat (48+u))=true:=by decide
  by_cases h:n<10
  ·rw[dec_one h]
   simp only[List.all_cons,List.all_nil,Bool.and_true]
   exact key n h
  ·rw[dec_step h,List.all_append,ih (n / 10) (by omega)]
   simp only[List.all_cons,List.all_nil,Bool.and_true,Bool.true_and]
   exact key (n % 10) (by omega)
theorem seg_ok (n:Nat)(hn:n≤1099511627776) (c:UInt8)(hc:cutDisk.contains c=true):dkName (segName [c] n)=true∧dkName (segName [c] n++dotnew)=true:=by
 have h1:=dec_len 12 n (by omega)
 have h2:=digits_ok n
 have hz:(zeros n).all (cutDisk.contains ·)=true:=by
  unfold zeros;rw[List.all_eq_true];intro x hx;rw[(List.mem_replicate.1 hx).2]
  decide
 have hd:dotlog.all (cutDisk.contains ·)=true:=by decide
 have hw:dotnew.all (cutDisk.contains ·)=true:=by decide
 have hs:([47]:List UInt8).all (cutDisk.contains ·)=true:=by decide
 have hm:c∈cutDisk:=by simpa using hc
 have ha:(segName [c] n).all (cutDisk.contains ·)=true:=by
  unfold segName pad;rw[List.all_append,List.all_append,List.all_append,List.all_append,hz,h2,hd,hs];simp[hm]
 have hl:(segName [c] n).length≤26:=by
  unfold segName pad zeros dotlog;simp only[List.length_append,List.length_replicate,List.length_cons,List.length_nil]
  omega
 have hne:segName [c] n≠[]:=by unfold segName;simp
 unfold dkName nameOk;refine⟨?_,?_⟩
 ·rw[ha];simp[hne]
  omega
 ·rw[List.all_append,ha,hw];simp[hne,dotnew]
  omega
theorem new_ne (x:Nm):x++dotnew≠x:=by
 intro e;have:=congrArg List.length e
 rw[List.length_append] at this;have h2:dotnew.length=4:=rfl
 omega
open Go.Maps
theorem DsS.start {w w1:World}{p mb r:Nat}(hr:r≤1048576)(hp:w.heap.size≤p)(hm:w.heap.size≤mb)(hd:Dm w1 p mb [] (fun _=>undef) (fun _=>⟨[],0⟩) r (-1))(hc1:Chg Nil w w1) :
  DsS (fun k=>k<w.heap.size) w1 p (fun k=>w.heap.size≤k∧k<w1.heap.size) (Dk.fresh r):=by
 have hz:=hc1.size
 refine⟨fun k hk=>by omega,?_,fun k hk=>⟨by omega,hk.2⟩⟩
 refine⟨mb,[],_,_,hd,rfl,fun k hk=>⟨?_,hd.lt k hk⟩,⟨by simp[Dk.fresh,Dk.names],by simp[Dk.fresh],by simp[Dk.fresh,Dk.used],hr,by simp[Dk.fresh],by simp[Dk.fresh],by simp[Dk.fresh,Dk.names]⟩⟩
 rcases hk with rfl | rfl | ⟨q,hq,_⟩
 ·exact hp
 ·exact hm
 ·simp at hq
structure Lg where
 dir:List UInt8
 most:Int
 segs:List Sg
 start:Int
 safe:Int
 down:Bool
def OwnT (w:World) (v:Value) (l:List Nat):Prop:=w.ownsRow 0 104 1 v l.length (l.map fun s=>Value.pointer (some ⟨s,0,none⟩))
theorem OwnT.form {w:World}{v:Value}{l:List Nat}(h:OwnT w v l):v = .slice (vA v) l.length (vC v):=by
 rcases h.2 with ⟨rfl,hn⟩ | ⟨g,cap,cur,rfl,_,_,hle,_⟩
 ·rw[hn];rfl
 ·rfl
theorem OwnT.lt {w:World}{v:Value}{l:List Nat}(h:OwnT w v l):∀ k,v.ownBlock=some k→k<w.heap.size:=ownsRow_lt h
theorem OwnT.val {w:World}{v:Value}{l:List Nat}(h:OwnT w v l):∃ a cap,v = .slice a l.length cap∧l.length≤cap∧∀ i (h:i<l.length),∃ g,a=some ⟨g,0,none⟩∧w.cell? ⟨g,i,none⟩=some (.pointer (some ⟨l[i],0,none⟩)):=by
 rcases h.2 with ⟨rfl,hn⟩ | ⟨g,cap,cur,rfl,_,_,hle,_⟩
 ·exact⟨none,0,by rw[hn],by omega,fun i hi=>absurd hi (by omega)⟩
 ·have e1:∀ j,(⟨g,0,none⟩:Addr).add j=⟨g,j,none⟩:=fun j=>by unfold Addr.add;split<;>simp_all
  refine⟨some ⟨g,0,none⟩,cap,rfl,hle,fun i hi=>⟨g,rfl,?_⟩⟩
  have:=World.ownsRow.cells h (g:=g) rfl i (.pointer (some ⟨l[i],0,none⟩)) (by rw[List.getElem?_map,List.getElem?_eq_getElem hi];rfl)
  rwa [e1] at this
theorem segT:SliceT Tryz.prog 97 104 1 8:=
 ⟨Tryz.underlying97,by
  have h:(Tryz.prog.info? 104).map (fun i=>(i.zero,i.size,i.bytes))=some (some (.pointer none),1,8):=by kernel_rfl
  obtain⟨i,hi,hz,h1,h2⟩:=info_parts h
  exact⟨i,_,hi,hz,rfl,h1,h2⟩⟩
def Lg.cells (g:Lg) (p:Nat) (sv:Value):List Value:=[.pointer (some ⟨p,0,none⟩),.string ⟨g.dir.toArray⟩,.int .i64 g.most,sv,.int .i64 g.start,.int .i64 g.safe,.bool g.down]
def LHas (l:Nat) (sv:Value) (k:Nat):Prop:=k=l∨sv.ownBlock=some k
def THas (ss:List (Nat×Value)) (k:Nat):Prop:=∃ x∈ss,SHas x.1 x.2 k
def UHas (ss:List (Nat×Value)) (i:Nat) (k:Nat):Prop:=∃ j,∃ h:j<ss.length,j≠i∧SHas ss[j].1 ss[j].2 k
def BofI (B:Nat→Prop) (l:Nat) (sv:Value) (ss:List (Nat×Value)) (i:Nat) (k:Nat):Prop:=B k∨LHas l sv k∨UHas ss i k
def BofA (B:Nat→Prop) (l:Nat) (sv:Value) (ss:List (Nat×Value)) (k:Nat):Prop:=B k∨LHas l sv k∨THas ss k
structure LgS (B:Nat→Prop) (w:World) (p l:Nat) (S:Nat→Prop) (sv:Value) (ss:List (Nat×Value)) (d:Dk) (g:Lg):Prop where
 lo:∀ k,B k→k<w.heap.size
 a:DiskAt w p S d
 c:Box w l (g.cells p sv) 99
 o:OwnT w sv (ss.map (·.1))
 len:ss.length=g.segs.length
 m:∀ i (h:i<ss.length),Sm w ss[i].1 p ss[i].2 (g.segs[i]'(len ▸ h))
 sl:∀ k,S k→¬B k∧¬LHas l sv k∧¬THas ss k∧k<w.heap.size
 lb:∀ k,LHas l sv k→¬B k∧¬THas ss k
 tb:∀ k,THas ss k→¬B k
 apart:∀ i j (hi:i<ss.length)(hj:j<ss.length),i≠j→∀ k,SHas ss[i].1 ss[i].2 k→¬SHas ss[j].1 ss[j].2 k
structure LgT (w:World) (p l:Nat) (sv:Value) (ss:List (Nat×Value)) (g:Lg):Prop where
 c:Box w l (g.cells p sv) 99
 o:OwnT w sv (ss.map (·.1))
 len:ss.length=g.segs.length
 m:∀ i (h:i<ss.length),Sm w ss[i].1 p ss[i].2 (g.segs[i]'(len ▸ h))
theorem LgS.t {B:Nat→Prop}{w:World}{p l:Nat}{S:Nat→Prop}{sv:Value}{ss:List (Nat×Value)}{d:Dk}{g:Lg}(h:LgS B w p l S sv ss d g):LgT w p l sv ss g:=⟨h.c,h.o,h.len,h.m⟩
theorem LgT.chg {S:Nat→Prop}{w w':World}{p l:Nat}{sv:Value}{ss:List (Nat×Value)}{g:Lg}(h:LgT w p l sv ss g)(hc:Chg S w w')(hl:∀ k,LHas l sv k→¬S k)(ht:∀ k,(∃ x∈ss,SHas x.1 x.2 k)→¬S k):LgT w' p l sv ss g:=
 ⟨h.c.chg hc (hl l (.inl rfl)),ownsRow_chg h.o hc (fun k hk=>hl k (.inr hk)),h.len,fun i hi=>(h.m i hi).chg hc (fun k hk=>ht k ⟨ss[i],List.getElem_mem hi,hk⟩)⟩
theorem THas.of {ss:List (Nat×Value)}{i:Nat}(h:i<ss.length) {k:Nat}(hk:SHas ss[i].1 ss[i].2 k):THas ss k:=⟨ss[i],List.getElem_mem h,hk⟩
theorem THas.at {ss:List (Nat×Value)}{k:Nat}(h:THas ss k):∃ i,∃ hi:i<ss.length,SHas ss[i].1 ss[i].2 k:=by
 obtain⟨x,hx,hk⟩:=h
 obtain⟨i,hi,rfl⟩:=List.getElem_of_mem hx
 exact⟨i,hi,hk⟩
theorem UHas.all {ss:List (Nat×Value)}{i k:Nat}(h:UHas ss i k):THas ss k:=by
 obtain⟨j,hj,_,hk⟩:=h
 exact THas.of hj hk
theorem LgS.lt {B:Nat→Prop}{w:World}{p l:Nat}{S:Nat→Prop}{sv:Value}{ss:List (Nat×Value)}{d:Dk}{g:Lg}(h:LgS B w p l S sv ss d g):(∀ k,LHas l sv k→k<w.heap.size)∧∀ k,THas ss k→k<w.heap.size:=by
 refine⟨?_,fun k hk=>?_⟩
 ·rintro k (rfl | hk)
  ·exact (Array.getElem?_eq_some_iff.1 h.c).1
  ·exact h.o.lt k hk
 ·obtain⟨i,hi,hk⟩:=hk.at
  exact (h.m i hi).lt k hk
theorem LgS.seg {B:Nat→Prop}{w:World}{p l:Nat}{S:Nat→Prop}{sv:Value}{ss:List (Nat×Value)}{d:Dk}{g:Lg}(h:LgS B w p l S sv ss d g) (i:Nat)(hi:i<ss.length) :
  SgS (BofI B l sv ss i) w p ss[i].1 S ss[i].2 d (g.segs[i]'(h.len ▸ hi)):=by
 refine⟨?_,h.a,h.m i hi,fun k hk hs=>(h.sl k hs).2.2.1 (THas.of hi hk),fun k hk=>⟨?_,(h.sl k hk).2.2.2⟩,fun k hk=>?_⟩
 ·rintro k (hk | hk | hk)
  ·exact h.lo k hk
  ·exact h.lt.1 k hk
  ·exact h.lt.2 k hk.all
 ·rintro (hb | hb | hb)
  ·exact (h.sl k hk).1 hb
  ·exact (h.sl k hk).2.1 hb
  ·exact (h.sl k hk).2.2.1 hb.all
 ·rintro (hb | hb | ⟨j,hj,hji,hb⟩)
  ·exact h.tb k (THas.of hi hk) hb
  ·exact (h.lb k hb).2 (THas.of hi hk)
  ·exact h.apart i j hi hj (fun e=>hji e.symm) k hk hb
theorem LgS.ds {B:Nat→Prop}{w:World}{p l:Nat}{S:Nat→Prop}{sv:Value}{ss:List (Nat×Value)}{d:Dk}{g:Lg}(h:LgS B w p l S sv ss d g):DsS (BofA B l sv ss) w p S d:=by
 refine⟨?_,h.a,fun k hk=>⟨?_,(h.sl k hk).2.2.2⟩⟩
 ·rintro k (hk | hk | hk)
  ·exact h.lo k hk
  ·exact h.lt.1 k hk
  ·exact h.lt.2 k hk
 ·rintro (hb | hb | hb)
  ·exact (h.sl k hk).1 hb
  ·exact (h.sl k hk).2.1 hb
  ·exact (h.sl k hk).2.2.1 hb
theorem LgS.nil {B:Nat→Prop}{w w':World}{p l:Nat}{S:Nat→Prop}{sv:Value}{ss:List (Nat×Value)}{d:Dk}{g:Lg}(h:LgS B w p l S sv ss d g)(hc:Chg Nil w w'):LgS B w' p l S sv ss d g:=by
 have hz:=hc.size
 exact⟨fun k hk=>Nat.lt_of_lt_of_le (h.lo k hk) hz,h.a.chg hc (fun _ _ h=>h),h.c.chg hc (fun h=>h),ownsRow_chg h.o hc (fun _ _ h=>h),h.len,fun i hi=>(h.m i hi).chg hc (fun _ _ h=>h),
  fun k hk=>⟨(h.sl k hk).1,(h.sl k hk).2.1,(h.sl k hk).2.2.1,Nat.lt_of_lt_of_le (h.sl k hk).2.2.2 hz⟩,h.lb,h.tb,h.apart⟩
theorem LgS.back {B:Nat→Prop}{w w':World}{p l:Nat}{S S':Nat→Prop}{sv:Value}{ss:List (Nat×Value)}{d d':Dk}{g:Lg}{g':Sg}{v':Value}(h:LgS B w p l S sv ss d g) {i:Nat}(hi:i<ss.length)
  (hs:SgS (BofI B l sv ss i) w' p ss[i].1 S' v' d' g')(hc:Chg (Off (BofI B l sv ss i)) w w'):LgS B w' p l S' sv (ss.set i (ss[i].1,v')) d' { g with segs:=g.segs.set i g' }:=by
 have hz:=hc.size
 have hT:∀ k,THas (ss.set i (ss[i].1,v')) k→SHas ss[i].1 v' k∨UHas ss i k:=by
  intro k hk;obtain⟨j,hj,hk⟩:=hk.at
  rw[List.length_set] at hj;rw[List.getElem_set] at hk;by_cases hij:i=j
  ·rw[if_pos hij] at hk;exact .inl hk
  ·rw[if_neg hij] at hk;exact .inr ⟨j,hj,fun e=>hij e.symm,hk⟩
 refine⟨fun k hk=>Nat.lt_of_lt_of_le (h.lo k hk) hz,hs.a,h.c.chg hc (fun hn=>hn (.inr (.inl (.inl rfl)))),?_,?_,?_,?_,?_,?_,?_⟩
 ·rw[List.map_set];have e:((ss.map (·.1)).set i ss[i].1)=ss.map (·.1):=by
   apply List.ext_getElem
   ·rw[List.length_set]
   ·intro n h1 h2;rw[List.getElem_set];split
    ·next e=>subst e;rw[List.getElem_map]
    ·rfl
  rw[e];exact ownsRow_chg h.o hc (fun k hk hn=>hn (.inr (.inl (.inr hk))))
 ·rw[List.length_set,List.length_set];exact h.len
 ·intro j hj;rw[List.length_set] at hj;simp only[List.getElem_set]
  by_cases hij:i=j
  ·subst hij;simp only[if_true]
   exact hs.m
  ·simp only[if_neg hij]
   exact (h.m j hj).chg hc (fun k hk hn=>hn (.inr (.inr ⟨j,hj,fun e=>hij e.symm,hk⟩)))
 ·intro k hk;have h1:=hs.sl k hk
  refine⟨fun hb=>h1.1 (.inl hb),fun hb=>h1.1 (.inr (.inl hb)),fun hb=>?_,h1.2⟩
  rcases hT k hb with hb | hb
  ·exact hs.ap k hb hk
  ·exact h1.1 (.inr (.inr hb))
 ·intro k hk;refine⟨(h.lb k hk).1,fun hb=>?_⟩
  rcases hT k hb with hb | hb
  ·exact hs.ml k hb (.inr (.inl hk))
  ·exact (h.lb k hk).2 hb.all
 ·intro k hk hb;rcases hT k hk with hk | hk
  ·exact hs.ml k hk (.inl hb)
  ·exact h.tb k hk.all hb
 ·intro a b ha hb hab k hk hk2;rw[List.length_set] at ha hb
  rw[List.getElem_set] at hk hk2
  by_cases h1:i=a
  ·subst h1;rw[if_pos rfl] at hk
   rw[if_neg hab] at hk2
   exact hs.ml k hk (.inr (.inr ⟨b,hb,fun e=>hab e.symm,hk2⟩))
  ·rw[if_neg h1] at hk
   by_cases h2:i=b
   ·subst h2;rw[if_pos rfl] at hk2
    exact hs.ml k hk2 (.inr (.inr ⟨a,ha,fun e=>h1 e.symm,hk⟩))
   ·rw[if_neg h2] at hk2
    exact h.apart a b ha hb hab k hk hk2
def sg0:Sg:=⟨[],0,[],0⟩
def Lg.last (g:Lg):Sg:=(g.segs[g.segs.length-1]?).getD sg0
def Lg.stop (g:Lg):Int:=g.last.next
def Lg.fail (g:Lg) (k:Nat):Lg:=if k=14 then { g with down:=true } else g
def flushLg (d:Dk) (g:Lg):Nat×Dk×Lg:=
 if g.down=true then (6,d,g)
 else if (d.sync g.last.name).1=0 then (0,(d.sync g.last.name).2,{ g with safe:=g.stop })
 else ((d.sync g.last.name).1,(d.sync g.last.name).2,g.fail (d.sync g.last.name).1)
def moreLg (d:Dk) (g:Lg):Nat×Dk×Lg:=
 if (d.make (segName g.dir g.stop.toNat)).1=0 then (0,(d.make (segName g.dir g.stop.toNat)).2,{ g with segs:=g.segs++[⟨segName g.dir g.stop.toNat,g.stop,[],0⟩] })
 else ((d.make (segName g.dir g.stop.toNat)).1,(d.make (segName g.dir g.stop.toNat)).2,g)
def rollLg (d:Dk) (g:Lg):Nat×Dk×Lg:=
 if (flushLg d g).1=0 then moreLg (flushLg d g).2.1 (flushLg d g).2.2 else flushLg d g
def Lg.batch (g:Lg) (rs:List Rec):Bt:=⟨g.stop,g.stop+rs.length,numbered g.stop rs⟩
def putLg (d:Dk) (g:Lg) (b:Bt):Nat×Dk×Lg:=
 let r:=addSg d g.last b.base b.en b.rs
 if r.1=0 then (0,r.2.1,{ g with segs:=g.segs.set (g.segs.length-1) r.2.2 })
 else (r.1,r.2.1,({ g with segs:=g.segs.set (g.segs.length-1) r.2.2 }:Lg).fail r.1)
def addLg (d:Dk) (g:Lg) (rs:List Rec):Nat×Dk×Lg:=
 if g.down=true then (6,d,g)
 else if encErr (g.batch rs).base (g.batch rs).en (g.batch rs).rs≠0 then (encErr (g.batch rs).base (g.batch rs).en (g.batch rs).rs,d,g)
 else if 0<g.last.size∧g.most<(g.last.size:Int)+((g.batch rs).bytes.length:Nat) then
  (if (rollLg d g).1=0 then putLg (rollLg d g).2.1 (rollLg d g).2.2 (g.batch rs) else ((rollLg d g).1,(rollLg d g).2.1,(rollLg d g).2.2.fail (rollLg d g).1))
 else putLg d g (g.batch rs)
def offUp:Int→List Rec→Prop
 | _,[]=>True
 | n,r::rs=>n≤r.off∧offUp (r.off+1) rs
theorem offUp_le:∀ {n m:Int}{rs:List Rec},offUp n rs→m≤n→offUp m rs
 | _,_,[],_,_=>trivial
 | _,_,_::_,h,hm=>⟨Int.le_trans hm h.1,h.2⟩
theorem offUp_mem:∀ {n:Int}{rs:List Rec},offUp n rs→∀ r∈rs,n≤r.off
 | _,[],_,r,hr=>by cases hr
 | n,a::rs,h,r,hr=>by
  rcases List.mem_cons.1 hr with rfl | hr
  ·exact h.1
  ·have:=offUp_mem h.2 r hr
   have:=h.1
   omega
theorem offUp_append:∀ {n m:Int}{a b:List Rec},offUp n a→(∀ r∈a,r.off<m)→n≤m→offUp m b→offUp n (a++b)
 | n,m,[],b,_,_,hm,hb=>offUp_le hb hm
 | n,m,x::a,b,ha,hx,_,hb=>⟨ha.1,offUp_append ha.2 (fun r hr=>hx r (List.mem_cons_of_mem _ hr)) (by have:=hx x (List.mem_cons_self ..);omega) hb⟩
theorem offUp_check {en:Int}:∀ {last:Int}{rs:List Rec},checkRecs en last rs=0→offUp (last+1) rs
 | _,[],_=>trivial
 | last,r::rs,h=>by
  unfold checkRecs at h;by_cases h1:badArg last en r=true
  ·rw[if_pos h1] at h;cases h
  rw[if_neg h1] at h
  by_cases h2:badLen r=true
  ·rw[if_pos h2] at h;cases h
  rw[if_neg h2] at h
  by_cases h3:badTime r=true
  ·rw[if_pos h3] at h;cases h
  rw[if_neg h3] at h
  have h4:last<r.off:=by
   unfold badArg at h1;simp only[Bool.or_eq_true,decide_eq_true_eq,not_or] at h1
   omega
  exact⟨by omega,offUp_check h⟩
theorem Bt.Ok.up {b:Bt}(h:b.Ok):offUp b.base b.rs:=by
 have hc:=checked_of_enc h.err
 have hz:=checkB_zero hc
 unfold checkB at hc;rw[if_neg (by omega),if_neg (by omega),if_neg (by omega)] at hc
 exact offUp_le (offUp_check hc) (by omega)
theorem Bt.Ok.offs {b:Bt}(h:b.Ok):∀ r∈b.rs,b.base≤r.off∧r.off<b.en:=fun r hr=>by
 have h1:=(checkB_zero (checked_of_enc h.err)).2.2.2.2.2 r hr
 exact⟨h1.lo,h1.hi⟩
def recsOf (l:List Bt):List Rec:=l.flatMap Bt.rs
theorem recsOf_cons (b:Bt) (l:List Bt):recsOf (b::l)=b.rs++recsOf l:=List.flatMap_cons
theorem recsOf_append (l m:List Bt):recsOf (l++m)=recsOf l++recsOf m:=List.flatMap_append
theorem recsOf_up:∀ {n:Int}{l:List Bt},(∀ b∈l,b.Ok)→rising n l→offUp n (recsOf l)
 | _,[],_,_=>trivial
 | n,b::l,hok,h=>by
  have hb:=hok b (List.mem_cons_self ..)
  rw[recsOf_cons];exact offUp_append (offUp_le hb.up h.1) (fun r hr=>(hb.offs r hr).2) (by have:=hb.nums.lt;have:=h.1;omega) (recsOf_up (fun c hc=>hok c (List.mem_cons_of_mem _ hc)) h.2)
theorem recsOf_offs {l:List Bt}(hok:∀ b∈l,b.Ok):∀ r∈recsOf l,∃ b∈l,b.base≤r.off∧r.off<b.en:=fun r hr=>by
 obtain⟨b,hb,hr⟩:=List.mem_flatMap.1 hr
 exact⟨b,hb,(hok b hb).offs r hr⟩
theorem recsOf_len {l:List Bt}(hok:∀ b∈l,b.Ok):(recsOf l).length≤50*l.length:=by
 induction l with
 | nil=>simp[recsOf]
 | cons b l ih=>
  rw[recsOf_cons,List.length_append,List.length_cons];have:=ih (fun c hc=>hok c (List.mem_cons_of_mem _ hc))
  have:=(hok b (List.mem_cons_self ..)).nums.few
  omega
def ge (frm:Int) (r:Rec):Bool:=decide (frm≤r.off)
def recsFrom (frm:Int) (l:List Bt):List Rec:=(recsOf l).filter (ge frm)
theorem recsFrom_append (frm:Int) (l m:List Bt):recsFrom frm (l++m)=recsFrom frm l++recsFrom frm m:=by unfold recsFrom;rw[recsOf_append,List.filter_append]
theorem recsFrom_low {frm:Int}{l:List Bt}(hok:∀ b∈l,b.Ok)(h:∀ b∈l,b.en≤frm):recsFrom frm l=[]:=by
 unfold recsFrom;rw[List.filter_eq_nil_iff];intro r hr;obtain⟨b,hb,h1,h2⟩:=recsOf_offs hok r hr
 have:=h b hb
 unfold ge;simp only[decide_eq_true_eq]
 omega
theorem recsFrom_high {frm:Int}{l:List Bt}(hok:∀ b∈l,b.Ok)(h:∀ b∈l,frm≤b.base):recsFrom frm l=recsOf l:=by
 unfold recsFrom;rw[List.filter_eq_self];intro r hr;obtain⟨b,hb,h1,h2⟩:=recsOf_offs hok r hr
 have:=h b hb
 unfold ge;simp only[decide_eq_true_eq]
 omega
theorem filter_step {frm:Int}:∀ {n:Int}{l out rest:List Rec},offUp n l→l.filter (ge frm)=out++rest→∀ z,out.getLast? = some z→l.filter (ge (z.off+1))=rest:=by
 intro n l out rest hu he z hz;have hmem:z∈out:=List.mem_of_getLast? hz
 have hzl:z∈l.filter (ge frm):=by rw[he];exact List.mem_append_left _ hmem
 have hzf:frm≤z.off:=by have:=(List.mem_filter.1 hzl).2;unfold ge at this;simpa using this
 have hsub:∀ (l:List Rec) (n:Int),offUp n l→offUp n (l.filter (ge frm)):=by
  intro l;induction l with
  | nil=>intro n _;trivial
  | cons a l ih=>
   intro n h;by_cases ha:ge frm a=true
   ·rw[List.filter_cons_of_pos ha];exact⟨h.1,ih _ h.2⟩
   ·rw[List.filter_cons_of_neg ha];exact offUp_le (ih _ h.2) (by have:=h.1;omega)
 have hu2:=hsub l n hu
 rw[he] at hu2;have e1:l.filter (ge (z.off+1))=(l.filter (ge frm)).filter (ge (z.off+1)):=by
  rw[List.filter_filter];refine List.filter_congr fun r _=>?_
  unfold ge;by_cases h1:z.off+1≤r.off
  ·have h2:frm≤r.off:=by omega
   simp[h1,h2]
  ·simp[h1]
 rw[e1,he,List.filter_append];obtain⟨pre,rfl⟩:∃ pre,out=pre++[z]:=by
  rw[List.getLast?_eq_some_iff] at hz
  exact hz
 have key:∀ (pre:List Rec) (n:Int),offUp n (pre++[z]++rest)→(∀ r∈pre++[z],r.off≤z.off)∧∀ r∈rest,z.off+1≤r.off:=by
  intro pre;induction pre with
  | nil=>
   intro n h;refine⟨fun r hr=>?_,fun r hr=>offUp_mem h.2 r hr⟩
   rw[List.nil_append,List.mem_singleton] at hr;rw[hr];exact Int.le_refl _
  | cons a pre ih=>
   intro n h;obtain⟨h1,h2⟩:=ih _ h.2
   refine⟨fun r hr=>?_,h2⟩
   rw[List.cons_append] at hr;rcases List.mem_cons.1 hr with rfl | hr
   ·have:=offUp_mem h.2 z (by simp)
    omega
   ·exact h1 r hr
 obtain⟨k1,k2⟩:=key pre n hu2
 rw[List.filter_eq_nil_iff.2 (fun r hr=>by unfold ge;have:=k1 r hr;simp;omega),List.nil_append]
 exact List.filter_eq_self.2 (fun r hr=>by unfold ge;have:=k2 r hr;simp;omega)
abbrev SgB:=Sg×List Bt
def allBts (xs:List SgB):List Bt:=xs.flatMap (·.2)
theorem allBts_cons (x:SgB) (xs:List SgB):allBts (x::xs)=x.2++allBts xs:=List.flatMap_cons
theorem allBts_append (xs ys:List SgB):allBts (xs++ys)=allBts xs++allBts ys:=List.flatMap_append
def chainUp:Int→List SgB→Prop
 | _,[]=>True
 | n,x::r=>n≤x.1.base∧chainUp (max x.1.next (x.1.base+1)) r
theorem rising_append:∀ {n:Int}{l m:List Bt},rising n l→rising (lastEnd n l) m→rising n (l++m)
 | _,[],_,_,h=>h
 | _,a::l,_,h,h2=>⟨h.1,rising_append h.2 h2⟩
theorem rising_le {n m:Int}{l:List Bt}(h:rising n l)(hm:m≤n):rising m l:=by
 cases l with
 | nil=>trivial
 | cons a l=>exact⟨Int.le_trans hm h.1,h.2⟩
theorem SgOf.base_next {g:Sg}{l:List Bt}(h:SgOf g l):g.base≤g.next:=by rw[h.next];exact (lastEnd_le h.ok h.up).1
theorem chainUp_rising:∀ {n:Int}{xs:List SgB},(∀ x∈xs,SgOf x.1 x.2)→chainUp n xs→rising n (allBts xs)∧∀ b∈allBts xs,b.Ok
 | _,[],_,_=>⟨trivial,fun b hb=>by cases hb⟩
 | n,x::r,h,hu=>by
  have hx:=h x (List.mem_cons_self ..)
  obtain⟨h1,h2⟩:=chainUp_rising (fun y hy=>h y (List.mem_cons_of_mem _ hy)) hu.2
  rw[allBts_cons];refine⟨rising_append (rising_le hx.up hu.1) ?_,fun b hb=>?_⟩
  ·have h3:=hx.next
   rcases List.eq_nil_or_concat x.2 with h0 | ⟨m,b,h0⟩
   ·rw[h0];refine rising_le h1 ?_
    have:=hu.1
    show n≤_
    omega
   ·rw[List.concat_eq_append] at h0;rw[h0,lastEnd_snoc] at h3 ⊢
    exact rising_le h1 (by omega)
  ·rcases List.mem_append.1 hb with hb | hb
   ·exact hx.ok b hb
   ·exact h2 b hb
inductive Reads (most:Int):Int→List SgB→List Rec→Prop
 | nil (frm:Int):Reads most frm [] []
 | skip {frm:Int}{x:SgB}{r:List SgB}{out:List Rec}:x.1.next≤frm→Reads most frm r out→Reads most frm (x::r) out
 | hit {frm:Int}{x:SgB}{r:List SgB}:frm<x.1.next→recsFrom frm (readL x.2 frm most)≠[]→Reads most frm (x::r) (recsFrom frm (readL x.2 frm most))
 | again {frm:Int}{x:SgB}{r:List SgB}{out:List Rec}:frm<x.1.next→recsFrom frm (readL x.2 frm most)=[]→lastEnd frm (readL x.2 frm most)<x.1.next→Reads most (lastEnd frm (readL x.2 frm most)) (x::r) out→Reads most frm (x::r) out
 | past {frm:Int}{x:SgB}{r:List SgB}{out:List Rec}:frm<x.1.next→recsFrom frm (readL x.2 frm most)=[]→x.1.next≤lastEnd frm (readL x.2 frm most)→Reads most (lastEnd frm (readL x.2 frm most)) r out→Reads most frm (x::r) out
theorem Reads.drop {most frm:Int}{out:List Rec}:∀ {xs:List SgB} (k:Nat),(∀ x∈xs.take k,x.1.next≤frm)→Reads most frm xs out→Reads most frm (xs.drop k) out
 | xs,0,_,h=>h
 | [],k+1,_,h=>by simpa using h
 | x::r,k+1,hk,h=>by
  rw[List.take_succ_cons] at hk;have h1:=hk x (List.mem_cons_self ..)
  have h2:Reads most frm r out:=by
   cases h with
   | skip _ h=>exact h
   | hit h _=>omega
   | again h _ _ _=>omega
   | past h _ _ _=>omega
  rw[List.drop_succ_cons];exact Reads.drop k (fun y hy=>hk y (List.mem_cons_of_mem _ hy)) h2
theorem readGo_pre:∀ (f:Bool) (m:Int) (l:List Bt),∃ tl,l=readGo f m l++tl
 | _,_,[]=>⟨[],rfl⟩
 | f,m,a::l=>by
  unfold readGo;split
  ·exact⟨a::l,rfl⟩
  ·obtain⟨tl,h⟩:=readGo_pre false (wrap64 (m-(a.bytes.length:Nat))) l
   exact⟨tl,by rw[List.cons_append,←h]⟩
theorem takeWhile_low {frm:Int}:∀ l:List Bt,∀ b∈l.takeWhile (fun b=>decide (b.en≤frm)),b.en≤frm
 | [],b,hb=>by cases hb
 | a::l,b,hb=>by
  by_cases h:a.en≤frm
  ·rw[List.takeWhile_cons_of_pos (by simpa using h)] at hb
   rcases List.mem_cons.1 hb with rfl | hb
   ·exact h
   ·exact takeWhile_low l b hb
  ·rw[List.takeWhile_cons_of_neg (by simpa using h)] at hb
   cases hb
theorem readL_mid {n:Int}{l:List Bt}(hok:∀ b∈l,b.Ok)(hup:rising n l) (frm most:Int)(hlt:frm<lastEnd n l)(hn:l=[]→n≤frm) :
  ∃ sk tl,l=sk++readL l frm most++tl∧readL l frm most≠[]∧(∀ b∈sk,b.en≤frm)∧frm<lastEnd frm (readL l frm most)∧(∀ b∈readL l frm most,b.en≤lastEnd frm (readL l frm most))∧(∀ b∈tl,lastEnd frm (readL l frm most)≤b.base)∧lastEnd frm (readL l frm most)≤lastEnd n l:=by
 have hsk:l=l.takeWhile (fun b=>decide (b.en≤frm))++l.dropWhile (fun b=>decide (b.en≤frm)):=(List.takeWhile_append_dropWhile).symm
 have hskl:∀ b∈l.takeWhile (fun b=>decide (b.en≤frm)),b.en≤frm:=fun b hb=>by
  exact takeWhile_low l b hb
 have hne:l.dropWhile (fun b=>decide (b.en≤frm))≠[]:=by
  intro h0;rw[h0,List.append_nil] at hsk;rcases List.eq_nil_or_concat l with rfl | ⟨m,b,rfl⟩
  ·have:=hn rfl
   have:frm<n:=hlt
   omega
  ·rw[List.concat_eq_append] at hlt hsk hskl
   rw[lastEnd_snoc] at hlt;have:=hskl b (by rw[←hsk];simp)
   omega
 obtain⟨b,dl,hd⟩:=List.exists_cons_of_ne_nil hne
 have hb:frm<b.en:=by
  have h1:(l.dropWhile (fun b=>decide (b.en≤frm))).head? = some b:=by rw[hd];rfl
  have h2:=List.head?_dropWhile_not (fun b:Bt=>decide (b.en≤frm)) l
  rw[h1] at h2;simpa using h2
 obtain⟨tl,htl⟩:=readGo_pre true most (l.dropWhile (fun b=>decide (b.en≤frm)))
 have hx:readL l frm most=readGo true most (l.dropWhile (fun b=>decide (b.en≤frm))):=rfl
 have hxne:readL l frm most≠[]:=by
  rw[hx,hd];unfold readGo;rw[if_neg (fun h=>by cases h.1)]
  simp
 rw[←hx] at htl;have hall:l=l.takeWhile (fun b=>decide (b.en≤frm))++readL l frm most++tl:=by rw[List.append_assoc,←htl];exact hsk
 generalize l.takeWhile (fun b=>decide (b.en≤frm))=sk at hall hskl;have hfst:∃ xr,readL l frm most=b::xr:=by
  rw[hx,hd];unfold readGo;rw[if_neg (fun h=>by cases h.1)]
  exact⟨_,rfl⟩
 obtain⟨xr,hxr⟩:=hfst
 generalize readL l frm most=x at *;have hsplit:∀ {n:Int} (a c:List Bt),rising n (a++c)→rising (lastEnd n a) c:=by
  intro n a;induction a generalizing n with
  | nil=>intro c h;exact h
  | cons e a ih=>intro c h;exact ih c h.2
 have h1:rising (lastEnd n (sk++x)) tl:=hsplit (sk++x) tl (by rw[←hall];exact hup)
 have h0:rising (lastEnd n sk) (x++tl):=hsplit sk (x++tl) (by rw[←List.append_assoc,←hall];exact hup)
 have hle:lastEnd n (sk++x)=lastEnd frm x:=by
  rw[hxr];have:∀ (n m:Int) (a:List Bt),lastEnd n (a++b::xr)=lastEnd m (b::xr):=by
   intro n m a;induction a generalizing n with
   | nil=>rfl
   | cons e a ih=>exact ih e.en
  exact this n frm sk
 have hokx:∀ c∈x,c.Ok:=fun c hc=>hok c (by rw[hall];simp[hc])
 have hokt:∀ c∈tl,c.Ok:=fun c hc=>hok c (by rw[hall];simp[hc])
 have hrx:rising (lastEnd n sk) x:=by
  have:∀ {n:Int} (a c:List Bt),rising n (a++c)→rising n a:=by
   intro n a;induction a generalizing n with
   | nil=>intro c _;trivial
   | cons e a ih=>intro c h;exact⟨h.1,ih c h.2⟩
  exact this x tl h0
 have hxe:lastEnd (lastEnd n sk) x=lastEnd frm x:=by rw[hxr];rfl
 have hxle:=lastEnd_le hokx hrx
 rw[hxe] at hxle;refine⟨sk,tl,hall,hxne,hskl,?_,hxle.2,?_,?_⟩
 ·have:=hxle.2 b (by rw[hxr];exact List.mem_cons_self ..)
  omega
 ·rw[hle] at h1;exact rising_mem hokt h1
 ·rw[←hle];have:lastEnd n l=lastEnd (lastEnd n (sk++x)) tl:=by
   have:∀ (n:Int) (a c:List Bt),lastEnd n (a++c)=lastEnd (lastEnd n a) c:=by
    intro n a;induction a generalizing n with
    | nil=>intro c;rfl
    | cons e a ih=>intro c;exact ih e.en c
   conv=>lhs;rw[hall]
   exact this n (sk++x) tl
  rw[this];exact (lastEnd_le hokt h1).1
theorem Reads.from {most:Int}:∀ {frm:Int}{xs:List SgB}{out:List Rec},Reads most frm xs out→∀ {n:Int},(∀ x∈xs,SgOf x.1 x.2)→chainUp n xs→∃ rest,recsFrom frm (allBts xs)=out++rest∧(out=[]→rest=[]):=by
 intro frm xs out h;induction h with
 | nil frm=>intro n _ _;exact⟨[],rfl,fun _=>rfl⟩
 | @skip frm x r out hn hr ih=>
  intro n hof hu;obtain⟨rest,h1,h2⟩:=ih (fun y hy=>hof y (List.mem_cons_of_mem _ hy)) hu.2
  have hx:=hof x (List.mem_cons_self ..)
  refine⟨rest,?_,h2⟩
  rw[allBts_cons,recsFrom_append,recsFrom_low hx.ok (fun b hb=>?_),List.nil_append]
  ·exact h1
  ·have:=(lastEnd_le hx.ok hx.up).2 b hb
   rw[←hx.next] at this;omega
 | @hit frm x r hn hne=>
  intro n hof hu;have hx:=hof x (List.mem_cons_self ..)
  obtain⟨hr1,hr2⟩:=chainUp_rising hof hu
  obtain⟨sk,tl,hall,_,hsk,_,_,htl,_⟩:=readL_mid hx.ok hx.up frm most (by rw[←hx.next];exact hn) (fun h0=>by
   have h3:=hx.next
   rw[h0] at h3;have h3:x.1.next=x.1.base:=h3
   by_cases hb:x.1.base≤frm
   ·exact hb
   ·exfalso
    apply hne
    rw[h0];rfl)
  refine⟨recsFrom frm (tl++allBts r),?_,fun h=>absurd h hne⟩
  have hoks:∀ b∈sk,b.Ok:=fun b hb=>hx.ok b (by rw[hall];simp[hb])
  generalize readL x.2 frm most=y at *;rw[allBts_cons,hall,List.append_assoc,List.append_assoc,recsFrom_append,recsFrom_low hoks hsk,List.nil_append,recsFrom_append]
 | @again frm x r out hn he hlt hr ih=>
  intro n hof hu;obtain⟨rest,h1,h2⟩:=ih hof hu
  have hx:=hof x (List.mem_cons_self ..)
  refine⟨rest,?_,h2⟩
  rw[←h1];obtain⟨hr1,hr2⟩:=chainUp_rising (fun y hy=>hof y (List.mem_cons_of_mem _ hy)) hu.2
  by_cases h0:x.2=[]
  ·have e:lastEnd frm (readL x.2 frm most)=frm:=by rw[h0];rfl
   rw[e]
  obtain⟨sk,tl,hall,_,hsk,hfl,hxl,htl,hle⟩:=readL_mid hx.ok hx.up frm most (by rw[←hx.next];exact hn) (fun h=>absurd h h0)
  have hoks:∀ b∈sk,b.Ok:=fun b hb=>hx.ok b (by rw[hall];simp[hb])
  have hokt:∀ b∈tl,b.Ok:=fun b hb=>hx.ok b (by rw[hall];simp[hb])
  have hoky:∀ b∈readL x.2 frm most,b.Ok:=fun b hb=>hx.ok b (by rw[hall];simp[hb])
  rw[←hx.next] at hle;generalize readL x.2 frm most=y at *;have hrb:∀ b∈allBts r,lastEnd frm y≤b.base:=fun b hb=>by have:=rising_mem hr2 hr1 b hb;omega
  rw[allBts_cons,hall,List.append_assoc,List.append_assoc,recsFrom_append,recsFrom_low hoks hsk,List.nil_append,recsFrom_append,he,List.nil_append,recsFrom_append frm,recsFrom_high hokt (fun b hb=>by have:=htl b hb;omega),recsFrom_high hr2 (fun b hb=>by have:=hrb b hb;omega)]
  rw[recsFrom_append,recsFrom_low hoks (fun b hb=>by have:=hsk b hb;omega),List.nil_append,recsFrom_append,recsFrom_low hoky hxl,List.nil_append,recsFrom_append,recsFrom_high hokt htl,recsFrom_high hr2 hrb]
 | @past frm x r out hn he hge hr ih=>
  intro n hof hu;obtain⟨rest,h1,h2⟩:=ih (fun y hy=>hof y (List.mem_cons_of_mem _ hy)) hu.2
  have hx:=hof x (List.mem_cons_self ..)
  obtain⟨hr1,hr2⟩:=chainUp_rising (fun y hy=>hof y (List.mem_cons_of_mem _ hy)) hu.2
  refine⟨rest,?_,h2⟩
  rw[←h1];by_cases h0:x.2=[]
  ·have e:lastEnd frm (readL x.2 frm most)=frm:=by rw[h0];rfl
   rw[e,allBts_cons,h0,List.nil_append]
  obtain⟨sk,tl,hall,_,hsk,hfl,hxl,htl,hle⟩:=readL_mid hx.ok hx.up frm most (by rw[←hx.next];exact hn) (fun h=>absurd h h0)
  have hoks:∀ b∈sk,b.Ok:=fun b hb=>hx.ok b (by rw[hall];simp[hb])
  have hokt:∀ b∈tl,b.Ok:=fun b hb=>hx.ok b (by rw[hall];simp[hb])
  have hxe:=(lastEnd_le hx.ok hx.up).2
  rw[←hx.next] at hle hxe
  have htn:tl=[]:=by
   rcases tl with _ | ⟨c,tl⟩
   ·rfl
   ·have a1:=htl c (List.mem_cons_self ..)
    have a2:=(hokt c (List.mem_cons_self ..)).nums.lt
    have a3:=hxe c (by rw[hall];simp)
    omega
  subst htn;generalize readL x.2 frm most=y at *;have hrb:∀ b∈allBts r,lastEnd frm y≤b.base:=fun b hb=>by have:=rising_mem hr2 hr1 b hb;omega
  rw[allBts_cons,hall,List.append_nil,List.append_assoc,recsFrom_append,recsFrom_low hoks hsk,List.nil_append,recsFrom_append,he,List.nil_append,recsFrom_high hr2 (fun b hb=>by have:=hrb b hb;omega),recsFrom_high hr2 hrb]
end Go.Proofs.YtdjmifaidgbbaaaGreatDoor
