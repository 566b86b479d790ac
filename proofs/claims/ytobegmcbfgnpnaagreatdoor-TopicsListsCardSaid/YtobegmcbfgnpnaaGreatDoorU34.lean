/-
  A log in order on its disk, plain; Flush, a new segment and Add where the disk does not fail. (Of the logs' seat.)
-/
import Derived.Test.YtobegmcbfgnpnaaGreatDoorU33
set_option linter.unusedVariables false
set_option linter.unusedSimpArgs false
set_option maxHeartbeats 0
set_option maxRecDepth 200000
namespace Go.Proofs.YtobegmcbfgnpnaaGreatDoor
open Go.RowKit Go.Lib
def Dk.has (d:Dk) (x:Nm) (l:List UInt8):Prop:=∃ sf,d.find x=some ⟨l,sf⟩
theorem lookup_turn (x y:Nm) (f:Fl):∀ fs:List (Nm×Fl),(fs.map fun p=>if p.1=x then (p.1,f) else p).lookup y=if y=x then (fs.lookup y).map (fun _=>f) else fs.lookup y
 | []=>by simp
 | (a,c)::r=>by
  have ih:=lookup_turn x y f r
  rw[List.map_cons];by_cases hax:a=x
  ·subst hax;simp only[if_true,List.lookup_cons]
   by_cases hy:y=a
   ·subst hy;simp
   ·have hb:(y==a)=false:=beq_eq_false_iff_ne.2 hy
    simp only[hb,if_neg hy] at ih ⊢
    exact ih
  ·rw[if_neg hax]
   simp only[List.lookup_cons]
   by_cases hy:y=a
   ·subst hy;simp[hax]
   ·have hb:(y==a)=false:=beq_eq_false_iff_ne.2 hy
    simp only[hb]
    exact ih
theorem find_turn (d:Dk) (x y:Nm) (f:Fl):(d.turn x f).find y=if y=x then (d.find y).map (fun _=>f) else d.find y:=lookup_turn x y f d.fs
theorem find_put (d:Dk) (x y:Nm) (f:Fl):(d.put x f).find y=if y=x then some f else d.find y:=lookup_put x y f d.fs
theorem find_del (d:Dk) (x y:Nm):(d.del x).find y=if y=x then none else d.find y:=lookup_filter x y d.fs
open Go.Maps
def OwnZ (w:World) (v:Value) (l:List Int):Prop:=w.ownsRow 0 3 1 v l.length (l.map fun n=>Value.int .i64 n)
theorem OwnZ.nil (w:World):OwnZ w (.slice none 0 0) []:=World.ownsRow_nil w 0 _ 1
theorem OwnZ.chg {S:Nat→Prop}{w w':World}{v:Value}{l:List Int}(h:OwnZ w v l)(hc:Chg S w w')(hn:∀ k,v.ownBlock=some k→¬S k):OwnZ w' v l:=ownsRow_chg h hc hn
theorem OwnZ.val {w:World}{v:Value}{l:List Int}(h:OwnZ w v l):∃ a cap,v = .slice a l.length cap∧l.length≤cap∧∀ i (h:i<l.length),∃ g,a=some ⟨g,0,none⟩∧w.cell? ⟨g,i,none⟩=some (.int .i64 l[i]):=by
 rcases h.2 with ⟨rfl,hn⟩ | ⟨g,cap,cur,rfl,_,_,hle,_⟩
 ·exact⟨none,0,by rw[hn],by omega,fun i hi=>absurd hi (by omega)⟩
 ·have e1:∀ j,(⟨g,0,none⟩:Addr).add j=⟨g,j,none⟩:=fun j=>by unfold Addr.add;split<;>simp_all
  refine⟨some ⟨g,0,none⟩,cap,rfl,hle,fun i hi=>⟨g,rfl,?_⟩⟩
  have:=World.ownsRow.cells h (g:=g) rfl i (.int .i64 l[i]) (by rw[List.getElem?_map,List.getElem?_eq_getElem hi];rfl)
  rwa [e1] at this
theorem offI {B:Nat→Prop}{l:Nat}{sv:Value}{ss:List (Nat×Value)}{i:Nat}{w w':World}(h:Chg (Off (BofI B l sv ss i)) w w'):Chg (Off B) w w':=h.weak fun k hk=>.inl fun hb=>hk (.inl hb)
theorem LgS.offL {B:Nat→Prop}{w w':World}{p l:Nat}{S:Nat→Prop}{sv:Value}{ss:List (Nat×Value)}{d:Dk}{g:Lg}(h:LgS B w p l S sv ss d g)(hc:Chg (fun k=>k=l) w w'):Chg (Off B) w w':=hc.weak fun k hk=>.inl fun hb=>(h.lb l (.inl rfl)).1 (hk ▸ hb)
theorem set_same {α:Type} (ss:List α) (i:Nat)(hi:i<ss.length):ss.set i ss[i]=ss:=List.set_getElem_self hi
theorem LgS.disk {B:Nat→Prop}{w w':World}{p l:Nat}{S S':Nat→Prop}{sv:Value}{ss:List (Nat×Value)}{d d':Dk}{g:Lg}(h:LgS B w p l S sv ss d g)(hd:DsS (BofA B l sv ss) w' p S' d')(hc:Chg (Off (BofA B l sv ss)) w w'):LgS B w' p l S' sv ss d' g:=by
 have hz:=hc.size
 refine⟨fun k hk=>Nat.lt_of_lt_of_le (h.lo k hk) hz,hd.a,h.c.chg hc (fun hn=>hn (.inr (.inl (.inl rfl)))),ownsRow_chg h.o hc (fun k hk hn=>hn (.inr (.inl (.inr hk)))),h.len,fun i hi=>(h.m i hi).chg hc (fun k hk hn=>hn (.inr (.inr (THas.of hi hk)))),
  fun k hk=>⟨fun hb=>(hd.sl k hk).1 (.inl hb),fun hb=>(hd.sl k hk).1 (.inr (.inl hb)),fun hb=>(hd.sl k hk).1 (.inr (.inr hb)),(hd.sl k hk).2⟩,h.lb,h.tb,h.apart⟩
end Go.Proofs.YtobegmcbfgnpnaaGreatDoor
namespace Go.Proofs.YtobegmcbfgnpnaaGreatDoor.Ch
section
variable {P:Program} {ops:Array Oper} {R:World→World→Prop} {C:List Nat} {F:List Value→World→Prop} {w0:World} {Q:Exit→Act→World→Prop} {a0:Act}
theorem Walk.chainP (m:Nat) (φ:Value→World→Prop)(hk:∀ v w w',φ v w→R w w'→φ v w') {js:List Nat}{E:List (List Nat)}{o:Oper}{os:List Oper}{specs:List Spec}(hd:o.dst.isSome=true)(hi:C[m]? = some specs.length)
  (h:∀ w,R w0 w→∀ vs:List Value,vs.length=m→F vs w→∀ N:Value→World→Prop,(∀ v w',φ v w'→R w w'→F (vs++[v]) w'→N v w')→Ob P ops o N w (depsOf ops (chained C vs specs) js) a0)
  (hrest:Walk P ops R C F w0 Q a0 E os (specs++[Sum.inr (Sum.inl φ)])):Walk P ops R C F w0 Q a0 (js::E) (o::os) specs:=
 ⟨.inr (.inl φ),⟨hk,fun e=>by rw[e] at hd;cases hd⟩,.inr (.inr ⟨m,hi,rfl,fun w hw vs hv hF N hN=>h w hw vs hv hF N (fun v w' hp hr hf=>hN v w' hp hr (by rw[show valIn o v=v by unfold valIn;cases ho:o.dst with | some _=>rfl | none=>rw[ho] at hd;cases hd];exact hf))⟩),hrest⟩
end
end Go.Proofs.YtobegmcbfgnpnaaGreatDoor.Ch
namespace Go.Proofs.YtobegmcbfgnpnaaGreatDoor
open Go.RowKit Go.Maps
theorem stop_keeps {g g':Lg}(h:g'.segs=g.segs):g'.last=g.last∧g'.stop=g.stop:=by
 have h1:g'.last=g.last:=by unfold Lg.last;rw[h]
 exact⟨h1,by unfold Lg.stop;rw[h1]⟩
theorem box_row_ne' {w:World}{g:Nat}{cs:List Value}{t e:TypeId}{sz n:Nat}{v:Value}{xs:List Value}(hb:Box w g cs t)(h:w.ownsRow 0 e sz v n xs)(hne:t≠e):¬v.ownBlock=some g:=by
 intro hk;rcases h.2 with ⟨rfl,_⟩ | ⟨g',cap,cur,rfl,_,hg,_⟩
 ·cases hk
 ·obtain rfl:g'=g:=Option.some.inj hk
  have hq:w.heap[g']? = _:=hb
  rw[hq] at hg;exact hne (Obj.cells.inj (Option.some.inj hg)).2.1
theorem lmake_any {B:Nat→Prop}{w:World}{p l:Nat}{S:Nat→Prop}{sv:Value}{ss:List (Nat×Value)}{d:Dk}{g:Lg}(h:LgS B w p l S sv ss d g)(hT:Tabs w)(hTB:TabB B)(hdir:g.dir.length≤100) (n:Nat)(hn:n≤1099511627776) :
  Calls Tryz.prog 121 #[.pointer (some ⟨p,0,none⟩),.string ⟨g.dir.toArray⟩,.int .i64 (n:Nat)] w fun e w'=>
   (((d.make (segName g.dir n)).1=0∧∃ s S',e = .returned (.tuple #[.pointer (some ⟨s,0,none⟩),.nilIface])∧LgS B w' p l S' sv ss (d.make (segName g.dir n)).2 g∧SgS (BofA B l sv ss) w' p s S' (.slice none 0 0) (d.make (segName g.dir n)).2 ⟨segName g.dir n,n,[],0⟩)∨
    ((d.make (segName g.dir n)).1≠0∧∃ S',e = .returned (.tuple #[.pointer none,errD (d.make (segName g.dir n)).1])∧LgS B w' p l S' sv ss (d.make (segName g.dir n)).2 g))∧Chg S w w':=by
 have hds:=h.ds
 have h1:=smake_any hds hT (fun n hn k hk=>.inl (hTB n hn k hk)) ⟨g.dir.toArray⟩ (by show g.dir.toArray.size≤100;simp;exact hdir) n hn
 have e1:segName (ByteArray.mk g.dir.toArray).data.toList n=segName g.dir n:=rfl
 rw[e1] at h1;refine h1.mono ?_
 rintro e w' ⟨hc,S',hds',hcase⟩
 have hoff:Chg (Off (BofA B l sv ss)) w w':=hc.weak fun k hk=>.inl (hds.sl k hk).1
 have hlg:=h.disk hds' hoff
 rcases hcase with ⟨h0,s,_,he,hsg⟩ | ⟨h0,he⟩
 ·exact⟨.inl ⟨h0,s,S',he,hlg,hsg⟩,hc⟩
 ·exact⟨.inr ⟨h0,S',he,hlg⟩,hc⟩
open Go.Lib
theorem rows_ne {w:World}{e e':TypeId}{sz sz' n n':Nat}{v v':Value}{xs xs':List Value}(h:w.ownsRow 0 e sz v n xs)(h':w.ownsRow 0 e' sz' v' n' xs')(hne:e≠e') {k:Nat}(hk:v.ownBlock=some k):v'.ownBlock≠some k:=fun hk'=>by
 rcases h.2 with ⟨rfl,_⟩ | ⟨g,cap,cur,rfl,_,hg,_⟩
 ·cases hk
 ·obtain rfl:g=k:=Option.some.inj hk
  rcases h'.2 with ⟨rfl,_⟩ | ⟨g',cap',cur',rfl,_,hg',_⟩
  ·cases hk'
  ·obtain rfl:g'=g:=Option.some.inj hk'
   rw[hg] at hg';exact hne (Obj.cells.inj (Option.some.inj hg')).2.1
theorem box_ne {w:World}{g g':Nat}{cs cs':List Value}{t t':TypeId}(h:Box w g cs t)(h':Box w g' cs' t')(hne:t≠t'):g≠g':=fun e=>by
 subst e;have h1:w.heap[g]? = _:=h
 have h2:w.heap[g]? = _:=h'
 rw[h1] at h2;exact hne (Obj.cells.inj (Option.some.inj h2)).2.1
def OwnE (w:World) (v:Value) (es:List Nat):Prop:=w.ownsRow 0 123 1 v es.length (es.map fun b=>Value.pointer (some ⟨b,0,none⟩))
def OwnV (w:World) (v:Value) (vs:List Value):Prop:=w.ownsRow 0 89 1 v vs.length vs
theorem entT:SliceT Tryz.prog 116 123 1 8:=
 ⟨Tryz.underlying116,by
  have h:(Tryz.prog.info? 123).map (fun i=>(i.zero,i.size,i.bytes))=some (some (.pointer none),1,8):=by kernel_rfl
  obtain⟨i,hi,hz,h1,h2⟩:=info_parts h
  exact⟨i,_,hi,hz,rfl,h1,h2⟩⟩
theorem intsT:SliceT Tryz.prog 120 89 1 24:=
 ⟨Tryz.underlying120,by
  have h:(Tryz.prog.info? 89).map (fun i=>(i.zero,i.size,i.bytes))=some (some (.slice none 0 0),1,24):=by kernel_rfl
  obtain⟨i,hi,hz,h1,h2⟩:=info_parts h
  exact⟨i,_,hi,hz,rfl,h1,h2⟩⟩
def Tp.cells (t:Tp) (lv:Value):List Value:=[.string ⟨t.name.toArray⟩,.int .i64 (t.starts.length:Nat),.bool t.comp,lv]
structure StE (n0:Nat) (w:World) (st:Nat) (p:Nat) (c1 c2 c3 va:Value) (es:List Nat) (ts:List Tp):Prop where
 box:Box w st [.pointer (some ⟨p,0,none⟩),c1,c2,c3,va,.bool false] 118
 row:OwnE w va es
 len:es.length=ts.length
 ent:∀ i (h:i<es.length)(h':i<ts.length),Box w es[i] (ts[i].cells (.slice none 0 0)) 126∧n0≤es[i]
 own:∀ k,va.ownBlock=some k→n0≤k
 nd:es.Nodup
structure StV (n0:Nat) (w:World) (b6:Nat) (sv:Value) (vs:List Value) (ts:List Tp):Prop where
 box:Box w b6 [sv] 120
 row:OwnV w sv vs
 len:vs.length=ts.length
 each:∀ i (h:i<vs.length)(h':i<ts.length),OwnZ w vs[i] ts[i].starts∧∀ k,vs[i].ownBlock=some k→n0≤k
 own:∀ k,sv.ownBlock=some k→n0≤k
section
variable {n0:Nat} {w w':World} {st p b6:Nat} {c1 c2 c3 va sv:Value} {es:List Nat} {vs:List Value} {ts:List Tp} {S:Nat→Prop}
theorem StE.chg (h:StE n0 w st p c1 c2 c3 va es ts)(hc:Chg S w w')(h1:¬S st)(h2:∀ k,va.ownBlock=some k→¬S k)(h3:∀ i (h:i<es.length),¬S es[i]):StE n0 w' st p c1 c2 c3 va es ts:=
 ⟨h.box.chg hc h1,ownsRow_chg h.row hc h2,h.len,fun i hi hi'=>⟨(h.ent i hi hi').1.chg hc (h3 i hi),(h.ent i hi hi').2⟩,h.own,h.nd⟩
theorem StV.chg (h:StV n0 w b6 sv vs ts)(hc:Chg S w w')(h1:¬S b6)(h2:∀ k,sv.ownBlock=some k→¬S k)(h3:∀ i (h:i<vs.length) k,vs[i].ownBlock=some k→¬S k):StV n0 w' b6 sv vs ts:=
 ⟨h.box.chg hc h1,ownsRow_chg h.row hc h2,h.len,fun i hi hi'=>⟨(h.each i hi hi').1.chg hc (h3 i hi),(h.each i hi hi').2⟩,h.own⟩
end
end Go.Proofs.YtobegmcbfgnpnaaGreatDoor
