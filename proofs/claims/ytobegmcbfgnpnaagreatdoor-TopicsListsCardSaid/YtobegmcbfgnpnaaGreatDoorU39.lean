/-
  What an operation leaves of the other files, whether it is done or not; a rewrite that is not done. (Of the logs' seat.)
-/
import Derived.Test.YtobegmcbfgnpnaaGreatDoorU34
import Derived.Shelf.SlicesE.Delete
set_option linter.unusedVariables false
set_option linter.unusedSimpArgs false
set_option maxHeartbeats 0
set_option maxRecDepth 200000
namespace Go.Proofs.YtobegmcbfgnpnaaGreatDoor
open Go.RowKit Go.Lib
theorem at_other {d:Dk}{x y:Nm}{g:Fl→Nat×(Dk→Dk)}(h:∀ f e,((g f).2 e).find y=e.find y):(d.at x g).2.find y=d.find y:=by
 unfold Dk.at;by_cases hd:d.does=false
 ·rw[if_pos hd]
 rw[if_neg hd]
 cases hf:d.find x with
 | none=>rfl
 | some f=>exact h f d.step
theorem cut_other (d:Dk) {x y:Nm}(hy:y≠x) (n:Int):(d.cut x n).2.find y=d.find y:=at_other fun f e=>by
 by_cases hr:n<0∨(f.bytes.length:Int)<n
 ·simp only[if_pos hr];rfl
 ·simp only[if_neg hr]
  rw[find_turn,if_neg hy]
theorem remove_other (d:Dk) {x y:Nm}(hy:y≠x):(d.remove x).2.find y=d.find y:=at_other fun f e=>by
 show (e.del x).find y=_
 rw[find_del,if_neg hy]
open Go.Maps
theorem LgS.less {B B':Nat→Prop}{w:World}{p l:Nat}{S:Nat→Prop}{sv:Value}{ss:List (Nat×Value)}{d:Dk}{g:Lg}(h:LgS B' w p l S sv ss d g)(hB:∀ k,B k→B' k):LgS B w p l S sv ss d g:=
 ⟨fun k hk=>h.lo k (hB k hk),h.a,h.c,h.o,h.len,h.m,fun k hk=>⟨fun hb=>(h.sl k hk).1 (hB k hb),(h.sl k hk).2⟩,fun k hk=>⟨fun hb=>(h.lb k hk).1 (hB k hb),(h.lb k hk).2⟩,fun k hk hb=>h.tb k hk (hB k hb),h.apart⟩
theorem DsS.grow {B:Nat→Prop}{w w':World}{p:Nat}{S:Nat→Prop}{d:Dk}(h:DsS B w p S d)(hc:Chg Nil w w'):DsS (fun k=>B k∨(w.heap.size≤k∧k<w'.heap.size)) w' p S d:=by
 have h2:=h.nil hc
 refine⟨fun k hk=>hk.elim (h2.lo k) (·.2),h2.a,fun k hk=>⟨?_,(h2.sl k hk).2⟩⟩
 rintro (hb | hb)
 ·exact (h2.sl k hk).1 hb
 ·have:=(h.sl k hk).2;omega
theorem OwnT.one {w:World}{r s:Nat}(h:Box w r [.pointer (some ⟨s,0,none⟩)] 145):OwnT w (.slice (some ⟨r,0,none⟩) 1 1) [s]:=
 ⟨rfl,.inr ⟨r,1,#[.pointer (some ⟨s,0,none⟩)],rfl,Nat.zero_le _,h,Nat.le_refl _,by unfold maxLen;omega,rfl,rfl⟩⟩
def sgMk (nm:Nm) (n:Int) (l:List Bt):Sg:=⟨nm,n,plsOf 0 l,(batBs l).length⟩
theorem sgMk_eq {g:Sg}{nm:Nm}{n:Int}{l:List Bt}(h:SgOf g l)(hn:g.name=nm)(hb:g.base=n):g=sgMk nm n l:=by
 cases g
 have h1:=h.pls
 have h2:=h.size
 simp only at h1 h2 hn hb
 rw[h1,h2,hn,hb];rfl
structure FdOk (d:Dk) (dir:Nm) (n:Nat) (c:List Bt×List UInt8):Prop where
 hi:n≤1099511627776
 fl:d.has (segName dir n) (batBs c.1++c.2)
 ok:∀ b∈c.1,b.Ok
 up:rising n c.1
 junk:c.2≠[]→decErr (c.2.take 6000)≠0
theorem FdOk.same {d d':Dk}{dir:Nm}{n:Nat}{c:List Bt×List UInt8}(h:FdOk d dir n c)(hf:d'.find (segName dir n)=d.find (segName dir n)):FdOk d' dir n c:=
 ⟨h.hi,by obtain⟨s,hs⟩:=h.fl;exact⟨s,by rw[hf];exact hs⟩,h.ok,h.up,h.junk⟩
def lastNext (ss:List Sg):Int:=((ss[ss.length-1]?).getD sg0).next
def offAt (dir:Nm) (x:Nm) (ss:List Sg) (dn:Bool):Bool:=decide (progBase dir x<0)||(dn||(decide (0<ss.length)&&decide (progBase dir x<lastNext ss)))
def openGo (dir:Nm) (C:Nat→List Bt×List UInt8):List Nm→Dk→List Sg→Bool→Nat×Dk×List Sg×Bool
 | [],d,ss,dn=>(0,d,ss,dn)
 | x::r,d,ss,dn=>
  if offAt dir x ss dn=true then
   (if (d.remove x).1=0 then openGo dir C r (d.remove x).2 ss dn else ((d.remove x).1,(d.remove x).2,ss,dn))
  else
   (if (openR d x (C (progBase dir x).toNat).1 (C (progBase dir x).toNat).2).1=0 then
    openGo dir C r (openR d x (C (progBase dir x).toNat).1 (C (progBase dir x).toNat).2).2 (ss++[sgMk x (progBase dir x) (C (progBase dir x).toNat).1]) (decide (0<(C (progBase dir x).toNat).2.length))
   else ((openR d x (C (progBase dir x).toNat).1 (C (progBase dir x).toNat).2).1,(openR d x (C (progBase dir x).toNat).1 (C (progBase dir x).toNat).2).2,ss,dn))
def openEnd (start:Int) (d:Dk) (g:Lg):Nat×Dk×Lg:=
 if (d.sync g.last.name).1=0 then (0,(d.sync g.last.name).2,{ g with safe:=g.stop,start:=min (max start ((g.segs[0]?).getD sg0).base) g.stop })
 else ((d.sync g.last.name).1,(d.sync g.last.name).2,g)
def openMid (start:Int) (d:Dk) (g:Lg):Nat×Dk×Lg:=
 if g.segs=[] then
  (if (d.make (segName g.dir start.toNat)).1=0 then openEnd start (d.make (segName g.dir start.toNat)).2 { g with segs:=[⟨segName g.dir start.toNat,start,[],0⟩] }
  else ((d.make (segName g.dir start.toNat)).1,(d.make (segName g.dir start.toNat)).2,g))
 else openEnd start d g
def openLg (C:Nat→List Bt×List UInt8) (dir:Nm) (most start:Int) (d:Dk):Nat×Dk×Lg:=
 if (openGo dir C (d.list (dir++[47])) d [] false).1=0 then
  openMid start (openGo dir C (d.list (dir++[47])) d [] false).2.1 ⟨dir,most,(openGo dir C (d.list (dir++[47])) d [] false).2.2.1,0,0,false⟩
 else ((openGo dir C (d.list (dir++[47])) d [] false).1,(openGo dir C (d.list (dir++[47])) d [] false).2.1,⟨dir,most,[],0,0,false⟩)
theorem openR_other {d:Dk}{x y:Nm}(hy:y≠x) (l:List Bt) (junk:List UInt8):(openR d x l junk).2.find y=d.find y:=by
 unfold openR;split
 ·rfl
 ·exact cut_other d hy _
theorem LgS.moreV {B:Nat→Prop}{w w1 w':World}{p l s:Nat}{S:Nat→Prop}{sv sv' v:Value}{ss:List (Nat×Value)}{d:Dk}{g:Lg}{sg:Sg}(h:LgS B w p l S sv ss d g)(hs:SgS (BofA B l sv ss) w p s S v d sg)
  (ho:OwnT w1 sv' (ss.map (·.1)++[s]))(hc1:Chg (fun k=>sv.ownBlock=some k) w w1)(hsv:∀ k,sv'.ownBlock=some k→sv.ownBlock=some k∨w.heap.size≤k)(hc2:Chg (fun k=>k=l) w1 w')(hb:Box w' l (({ g with segs:=g.segs++[sg] }:Lg).cells p sv') 140) :
  LgS B w' p l S sv' (ss++[(s,v)]) d { g with segs:=g.segs++[sg] }:=by
 have hc:Chg (fun k=>LHas l sv k) w w':=(hc1.weak fun k hk=>.inl (.inr hk)).trans hc2 (fun k hk=>.inl (.inl hk))
 have hz:=hc.size
 have hlt:=h.lt
 have hsl:∀ k,SHas s v k→k<w.heap.size:=hs.m.lt
 have hsn:∀ k,SHas s v k→¬BofA B l sv ss k:=hs.ml
 have hT:∀ k,THas (ss++[(s,v)]) k→THas ss k∨SHas s v k:=by
  rintro k ⟨x,hx,hk⟩
  rcases List.mem_append.1 hx with hx | hx
  ·exact .inl ⟨x,hx,hk⟩
  ·rw[List.mem_singleton.1 hx] at hk;exact .inr hk
 have hTlt:∀ k,THas (ss++[(s,v)]) k→k<w.heap.size:=fun k hk=>(hT k hk).elim (hlt.2 k) (hsl k)
 have hL:∀ k,LHas l sv' k→LHas l sv k∨w.heap.size≤k:=by
  rintro k (hk | hk)
  ·exact .inl (.inl hk)
  ·exact (hsv k hk).imp .inr id
 have hslv:sv'.ownBlock≠some l:=fun e=>by
  have h1:w'.heap[l]? = _:=hb
  have hll:=hlt.1 l (.inl rfl)
  rcases hsv l e with h2 | h2
  ·have h3:w.heap[l]? = _:=h.c
   rcases h.o.2 with ⟨hv,_⟩ | ⟨b,cap,cur,hv,_,hg,_⟩
   ·rw[hv] at h2;cases h2
   ·rw[hv] at h2;obtain rfl:b=l:=Option.some.inj h2
    rw[h3] at hg;exact absurd (Obj.cells.inj (Option.some.inj hg)).2.1 (by decide)
  ·omega
 refine⟨fun k hk=>Nat.lt_of_lt_of_le (h.lo k hk) hz,hs.a.chg hc (fun k hk hl=>(h.sl k hk).2.1 hl),hb,?_,?_,?_,?_,?_,?_,?_⟩
 ·rw[List.map_append,List.map_singleton];exact ownsRow_chg ho hc2 (fun k hk e=>hslv (e ▸ hk))
 ·rw[List.length_append,List.length_append,h.len];rfl
 ·intro i hi;rw[List.length_append,List.length_singleton] at hi;have hle:=h.len
  by_cases hil:i<ss.length
  ·have h1:=(h.m i hil).chg hc (fun k hk hl=>(h.lb k hl).2 (THas.of hil hk))
   simp only[List.getElem_append_left hil,List.getElem_append_left (show i<g.segs.length by omega)]
   exact h1
  ·obtain rfl:i=ss.length:=by omega
   have h1:=hs.m.chg hc (fun k hk hl=>hsn k hk (.inr (.inl hl)))
   have e1:(ss++[(s,v)])[ss.length]'(by simp)=(s,v):=by simp
   have e2:(g.segs++[sg])[ss.length]'(by simp;omega)=sg:=by simp[hle]
   simp only[e1,e2]
   exact h1
 ·intro k hk;have h1:=h.sl k hk
  refine⟨h1.1,fun hl=>?_,fun ht=>?_,Nat.lt_of_lt_of_le h1.2.2.2 hz⟩
  ·rcases hL k hl with h2 | h2
   ·exact h1.2.1 h2
   ·have:=h1.2.2.2;omega
  ·rcases hT k ht with h2 | h2
   ·exact h1.2.2.1 h2
   ·exact hs.ap k h2 hk
 ·intro k hk;rcases hL k hk with h1 | h1
  ·refine⟨(h.lb k h1).1,fun ht=>?_⟩
   rcases hT k ht with h2 | h2
   ·exact (h.lb k h1).2 h2
   ·exact hsn k h2 (.inr (.inl h1))
  ·exact⟨fun hbk=>by have:=h.lo k hbk;omega,fun ht=>by have:=hTlt k ht;omega⟩
 ·intro k hk;rcases hT k hk with h1 | h1
  ·exact h.tb k h1
  ·exact fun hbk=>hsn k h1 (.inl hbk)
 ·intro i j hi hj hij k hk hk2;rw[List.length_append,List.length_singleton] at hi hj
  by_cases h1:i<ss.length
  ·rw[List.getElem_append_left h1] at hk
   by_cases h2:j<ss.length
   ·rw[List.getElem_append_left h2] at hk2
    exact h.apart i j h1 h2 hij k hk hk2
   ·obtain rfl:j=ss.length:=by omega
    have e1:(ss++[(s,v)])[ss.length]'(by simp)=(s,v):=by simp
    rw[e1] at hk2;exact hsn k hk2 (.inr (.inr (THas.of h1 hk)))
  ·obtain rfl:i=ss.length:=by omega
   have e1:(ss++[(s,v)])[ss.length]'(by simp)=(s,v):=by simp
   rw[e1] at hk;have h2:j<ss.length:=by omega
   rw[List.getElem_append_left h2] at hk2
   exact hsn k hk (.inr (.inr (THas.of h2 hk2)))
end Go.Proofs.YtobegmcbfgnpnaaGreatDoor
