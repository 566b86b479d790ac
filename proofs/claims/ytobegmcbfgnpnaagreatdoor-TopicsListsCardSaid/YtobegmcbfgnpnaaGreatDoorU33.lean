/-
  A segment beside what is kept; a new disk. (Of the segments' seat; alike in SqW, SpL: for laws that need neither.)
-/
import Derived.Test.YtobegmcbfgnpnaaGreatDoorU32
set_option linter.unusedVariables false
set_option linter.unusedSimpArgs false
set_option maxHeartbeats 0
set_option maxRecDepth 200000
namespace Go.Proofs.YtobegmcbfgnpnaaGreatDoor
open Go.RowKit Go.Maps
theorem DsS.start {w w1:World}{p mb r:Nat}(hr:r≤1048576)(hp:w.heap.size≤p)(hm:w.heap.size≤mb)(hd:Dm w1 p mb [] (fun _=>undef) (fun _=>⟨[],0⟩) r (-1))(hc1:Chg Nil w w1) :
  DsS (fun k=>k<w.heap.size) w1 p (fun k=>w.heap.size≤k∧k<w1.heap.size) (Dk.fresh r):=by
 have hz:=hc1.size
 refine⟨fun k hk=>by omega,?_,fun k hk=>⟨by omega,hk.2⟩⟩
 refine⟨mb,[],_,_,hd,rfl,fun k hk=>⟨?_,hd.lt k hk⟩,⟨by simp[Dk.fresh,Dk.names],by simp[Dk.fresh],by simp[Dk.fresh,Dk.used],hr,by simp[Dk.fresh],by simp[Dk.fresh],by simp[Dk.fresh,Dk.names]⟩⟩
 rcases hk with rfl | rfl | ⟨q,hq,_⟩
 ·exact hp
 ·exact hm
 ·simp at hq
structure Lg where
 dir:List UInt8
 most:Int
 segs:List Sg
 start:Int
 safe:Int
 down:Bool
def OwnT (w:World) (v:Value) (l:List Nat):Prop:=w.ownsRow 0 145 1 v l.length (l.map fun s=>Value.pointer (some ⟨s,0,none⟩))
theorem OwnT.lt {w:World}{v:Value}{l:List Nat}(h:OwnT w v l):∀ k,v.ownBlock=some k→k<w.heap.size:=ownsRow_lt h
theorem OwnT.val {w:World}{v:Value}{l:List Nat}(h:OwnT w v l):∃ a cap,v = .slice a l.length cap∧l.length≤cap∧∀ i (h:i<l.length),∃ g,a=some ⟨g,0,none⟩∧w.cell? ⟨g,i,none⟩=some (.pointer (some ⟨l[i],0,none⟩)):=by
 rcases h.2 with ⟨rfl,hn⟩ | ⟨g,cap,cur,rfl,_,_,hle,_⟩
 ·exact⟨none,0,by rw[hn],by omega,fun i hi=>absurd hi (by omega)⟩
 ·have e1:∀ j,(⟨g,0,none⟩:Addr).add j=⟨g,j,none⟩:=fun j=>by unfold Addr.add;split<;>simp_all
  refine⟨some ⟨g,0,none⟩,cap,rfl,hle,fun i hi=>⟨g,rfl,?_⟩⟩
  have:=World.ownsRow.cells h (g:=g) rfl i (.pointer (some ⟨l[i],0,none⟩)) (by rw[List.getElem?_map,List.getElem?_eq_getElem hi];rfl)
  rwa [e1] at this
theorem segT:SliceT Tryz.prog 138 145 1 8:=
 ⟨Tryz.underlying138,by
  have h:(Tryz.prog.info? 145).map (fun i=>(i.zero,i.size,i.bytes))=some (some (.pointer none),1,8):=by kernel_rfl
  obtain⟨i,hi,hz,h1,h2⟩:=info_parts h
  exact⟨i,_,hi,hz,rfl,h1,h2⟩⟩
def Lg.cells (g:Lg) (p:Nat) (sv:Value):List Value:=[.pointer (some ⟨p,0,none⟩),.string ⟨g.dir.toArray⟩,.int .i64 g.most,sv,.int .i64 g.start,.int .i64 g.safe,.bool g.down]
def LHas (l:Nat) (sv:Value) (k:Nat):Prop:=k=l∨sv.ownBlock=some k
def THas (ss:List (Nat×Value)) (k:Nat):Prop:=∃ x∈ss,SHas x.1 x.2 k
def UHas (ss:List (Nat×Value)) (i:Nat) (k:Nat):Prop:=∃ j,∃ h:j<ss.length,j≠i∧SHas ss[j].1 ss[j].2 k
def BofI (B:Nat→Prop) (l:Nat) (sv:Value) (ss:List (Nat×Value)) (i:Nat) (k:Nat):Prop:=B k∨LHas l sv k∨UHas ss i k
def BofA (B:Nat→Prop) (l:Nat) (sv:Value) (ss:List (Nat×Value)) (k:Nat):Prop:=B k∨LHas l sv k∨THas ss k
structure LgS (B:Nat→Prop) (w:World) (p l:Nat) (S:Nat→Prop) (sv:Value) (ss:List (Nat×Value)) (d:Dk) (g:Lg):Prop where
 lo:∀ k,B k→k<w.heap.size
 a:DiskAt w p S d
 c:Box w l (g.cells p sv) 140
 o:OwnT w sv (ss.map (·.1))
 len:ss.length=g.segs.length
 m:∀ i (h:i<ss.length),Sm w ss[i].1 p ss[i].2 (g.segs[i]'(len ▸ h))
 sl:∀ k,S k→¬B k∧¬LHas l sv k∧¬THas ss k∧k<w.heap.size
 lb:∀ k,LHas l sv k→¬B k∧¬THas ss k
 tb:∀ k,THas ss k→¬B k
 apart:∀ i j (hi:i<ss.length)(hj:j<ss.length),i≠j→∀ k,SHas ss[i].1 ss[i].2 k→¬SHas ss[j].1 ss[j].2 k
structure LgT (w:World) (p l:Nat) (sv:Value) (ss:List (Nat×Value)) (g:Lg):Prop where
 c:Box w l (g.cells p sv) 140
 o:OwnT w sv (ss.map (·.1))
 len:ss.length=g.segs.length
 m:∀ i (h:i<ss.length),Sm w ss[i].1 p ss[i].2 (g.segs[i]'(len ▸ h))
theorem LgS.t {B:Nat→Prop}{w:World}{p l:Nat}{S:Nat→Prop}{sv:Value}{ss:List (Nat×Value)}{d:Dk}{g:Lg}(h:LgS B w p l S sv ss d g):LgT w p l sv ss g:=⟨h.c,h.o,h.len,h.m⟩
theorem LgT.chg {S:Nat→Prop}{w w':World}{p l:Nat}{sv:Value}{ss:List (Nat×Value)}{g:Lg}(h:LgT w p l sv ss g)(hc:Chg S w w')(hl:∀ k,LHas l sv k→¬S k)(ht:∀ k,(∃ x∈ss,SHas x.1 x.2 k)→¬S k):LgT w' p l sv ss g:=
 ⟨h.c.chg hc (hl l (.inl rfl)),ownsRow_chg h.o hc (fun k hk=>hl k (.inr hk)),h.len,fun i hi=>(h.m i hi).chg hc (fun k hk=>ht k ⟨ss[i],List.getElem_mem hi,hk⟩)⟩
theorem THas.of {ss:List (Nat×Value)}{i:Nat}(h:i<ss.length) {k:Nat}(hk:SHas ss[i].1 ss[i].2 k):THas ss k:=⟨ss[i],List.getElem_mem h,hk⟩
theorem THas.at {ss:List (Nat×Value)}{k:Nat}(h:THas ss k):∃ i,∃ hi:i<ss.length,SHas ss[i].1 ss[i].2 k:=by
 obtain⟨x,hx,hk⟩:=h
 obtain⟨i,hi,rfl⟩:=List.getElem_of_mem hx
 exact⟨i,hi,hk⟩
theorem UHas.all {ss:List (Nat×Value)}{i k:Nat}(h:UHas ss i k):THas ss k:=by
 obtain⟨j,hj,_,hk⟩:=h
 exact THas.of hj hk
theorem LgS.lt {B:Nat→Prop}{w:World}{p l:Nat}{S:Nat→Prop}{sv:Value}{ss:List (Nat×Value)}{d:Dk}{g:Lg}(h:LgS B w p l S sv ss d g):(∀ k,LHas l sv k→k<w.heap.size)∧∀ k,THas ss k→k<w.heap.size:=by
 refine⟨?_,fun k hk=>?_⟩
 ·rintro k (rfl | hk)
  ·exact (Array.getElem?_eq_some_iff.1 h.c).1
  ·exact h.o.lt k hk
 ·obtain⟨i,hi,hk⟩:=hk.at
  exact (h.m i hi).lt k hk
theorem LgS.seg {B:Nat→Prop}{w:World}{p l:Nat}{S:Nat→Prop}{sv:Value}{ss:List (Nat×Value)}{d:Dk}{g:Lg}(h:LgS B w p l S sv ss d g) (i:Nat)(hi:i<ss.length) :
  SgS (BofI B l sv ss i) w p ss[i].1 S ss[i].2 d (g.segs[i]'(h.len ▸ hi)):=by
 refine⟨?_,h.a,h.m i hi,fun k hk hs=>(h.sl k hs).2.2.1 (THas.of hi hk),fun k hk=>⟨?_,(h.sl k hk).2.2.2⟩,fun k hk=>?_⟩
 ·rintro k (hk | hk | hk)
  ·exact h.lo k hk
  ·exact h.lt.1 k hk
  ·exact h.lt.2 k hk.all
 ·rintro (hb | hb | hb)
  ·exact (h.sl k hk).1 hb
  ·exact (h.sl k hk).2.1 hb
  ·exact (h.sl k hk).2.2.1 hb.all
 ·rintro (hb | hb | ⟨j,hj,hji,hb⟩)
  ·exact h.tb k (THas.of hi hk) hb
  ·exact (h.lb k hb).2 (THas.of hi hk)
  ·exact h.apart i j hi hj (fun e=>hji e.symm) k hk hb
theorem LgS.ds {B:Nat→Prop}{w:World}{p l:Nat}{S:Nat→Prop}{sv:Value}{ss:List (Nat×Value)}{d:Dk}{g:Lg}(h:LgS B w p l S sv ss d g):DsS (BofA B l sv ss) w p S d:=by
 refine⟨?_,h.a,fun k hk=>⟨?_,(h.sl k hk).2.2.2⟩⟩
 ·rintro k (hk | hk | hk)
  ·exact h.lo k hk
  ·exact h.lt.1 k hk
  ·exact h.lt.2 k hk
 ·rintro (hb | hb | hb)
  ·exact (h.sl k hk).1 hb
  ·exact (h.sl k hk).2.1 hb
  ·exact (h.sl k hk).2.2.1 hb
theorem LgS.nil {B:Nat→Prop}{w w':World}{p l:Nat}{S:Nat→Prop}{sv:Value}{ss:List (Nat×Value)}{d:Dk}{g:Lg}(h:LgS B w p l S sv ss d g)(hc:Chg Nil w w'):LgS B w' p l S sv ss d g:=by
 have hz:=hc.size
 exact⟨fun k hk=>Nat.lt_of_lt_of_le (h.lo k hk) hz,h.a.chg hc (fun _ _ h=>h),h.c.chg hc (fun h=>h),ownsRow_chg h.o hc (fun _ _ h=>h),h.len,fun i hi=>(h.m i hi).chg hc (fun _ _ h=>h),
  fun k hk=>⟨(h.sl k hk).1,(h.sl k hk).2.1,(h.sl k hk).2.2.1,Nat.lt_of_lt_of_le (h.sl k hk).2.2.2 hz⟩,h.lb,h.tb,h.apart⟩
theorem LgS.back {B:Nat→Prop}{w w':World}{p l:Nat}{S S':Nat→Prop}{sv:Value}{ss:List (Nat×Value)}{d d':Dk}{g:Lg}{g':Sg}{v':Value}(h:LgS B w p l S sv ss d g) {i:Nat}(hi:i<ss.length)
  (hs:SgS (BofI B l sv ss i) w' p ss[i].1 S' v' d' g')(hc:Chg (Off (BofI B l sv ss i)) w w'):LgS B w' p l S' sv (ss.set i (ss[i].1,v')) d' { g with segs:=g.segs.set i g' }:=by
 have hz:=hc.size
 have hT:∀ k,THas (ss.set i (ss[i].1,v')) k→SHas ss[i].1 v' k∨UHas ss i k:=by
  intro k hk;obtain⟨j,hj,hk⟩:=hk.at
  rw[List.length_set] at hj;rw[List.getElem_set] at hk;by_cases hij:i=j
  ·rw[if_pos hij] at hk;exact .inl hk
  ·rw[if_neg hij] at hk;exact .inr ⟨j,hj,fun e=>hij e.symm,hk⟩
 refine⟨fun k hk=>Nat.lt_of_lt_of_le (h.lo k hk) hz,hs.a,h.c.chg hc (fun hn=>hn (.inr (.inl (.inl rfl)))),?_,?_,?_,?_,?_,?_,?_⟩
 ·rw[List.map_set];have e:((ss.map (·.1)).set i ss[i].1)=ss.map (·.1):=by
   apply List.ext_getElem
   ·rw[List.length_set]
   ·intro n h1 h2;rw[List.getElem_set];split
    ·next e=>subst e;rw[List.getElem_map]
    ·rfl
  rw[e];exact ownsRow_chg h.o hc (fun k hk hn=>hn (.inr (.inl (.inr hk))))
 ·rw[List.length_set,List.length_set];exact h.len
 ·intro j hj;rw[List.length_set] at hj;simp only[List.getElem_set]
  by_cases hij:i=j
  ·subst hij;simp only[if_true]
   exact hs.m
  ·simp only[if_neg hij]
   exact (h.m j hj).chg hc (fun k hk hn=>hn (.inr (.inr ⟨j,hj,fun e=>hij e.symm,hk⟩)))
 ·intro k hk;have h1:=hs.sl k hk
  refine⟨fun hb=>h1.1 (.inl hb),fun hb=>h1.1 (.inr (.inl hb)),fun hb=>?_,h1.2⟩
  rcases hT k hb with hb | hb
  ·exact hs.ap k hb hk
  ·exact h1.1 (.inr (.inr hb))
 ·intro k hk;refine⟨(h.lb k hk).1,fun hb=>?_⟩
  rcases hT k hb with hb | hb
  ·exact hs.ml k hb (.inr (.inl hk))
  ·exact (h.lb k hk).2 hb.all
 ·intro k hk hb;rcases hT k hk with hk | hk
  ·exact hs.ml k hk (.inl hb)
  ·exact h.tb k hk.all hb
 ·intro a b ha hb hab k hk hk2;rw[List.length_set] at ha hb
  rw[List.getElem_set] at hk hk2
  by_cases h1:i=a
  ·subst h1;rw[if_pos rfl] at hk
   rw[if_neg hab] at hk2
   exact hs.ml k hk (.inr (.inr ⟨b,hb,fun e=>hab e.symm,hk2⟩))
  ·rw[if_neg h1] at hk
   by_cases h2:i=b
   ·subst h2;rw[if_pos rfl] at hk2
    exact hs.ml k hk2 (.inr (.inr ⟨a,ha,fun e=>h1 e.symm,hk⟩))
   ·rw[if_neg h2] at hk2
    exact h.apart a b ha hb hab k hk hk2
def sg0:Sg:=⟨[],0,[],0⟩
def Lg.last (g:Lg):Sg:=(g.segs[g.segs.length-1]?).getD sg0
def Lg.stop (g:Lg):Int:=g.last.next
section
variable {w:World} {p l:Nat} {sv:Value} {ss:List (Nat×Value)} {g:Lg}
theorem LgT.lastSeg (h:LgT w p l sv ss g)(hne:0<ss.length):g.last=g.segs[g.segs.length-1]'(by have:=h.len;omega):=by
 unfold Lg.last;rw[List.getElem?_eq_getElem (by have:=h.len;omega)]
 rfl
theorem llast_any (h:LgT w p l sv ss g) (hne:0<ss.length) (hl:ss.length≤100000) :
  Calls Tryz.prog 77 #[.pointer (some ⟨l,0,none⟩)] w fun e w'=>e = .returned (.pointer (some ⟨(ss[ss.length-1]'(by omega)).1,0,none⟩))∧Chg Nil w w':=by
 have c3:=h.c.cell (j:=3) rfl
 obtain⟨a,cap,hv,_,hcell⟩:=h.o.val
 rw[List.length_map] at hv;subst hv;obtain⟨b,rfl,hz⟩:=hcell (ss.length-1) (by rw[List.length_map];omega)
 rw[List.getElem_map] at hz;obtain⟨q,hq⟩:∃ q,(ss[ss.length-1]'(by omega)).1=q:=⟨_,rfl⟩
 rw[hq] at hz ⊢
 have hk0:(1:Int)≤(ss.length:Int):=by omega
 have hk1:(ss.length:Int)-1<(ss.length:Int):=by omega
 clear h hcell hq hne;generalize ss.length=m at *;go_enter Tryz.func77,Tryz.ntmps77
 go_upto_region 1 with fail;refine wp_region_mono _ (Chg Nil) (by kernel_rfl) (fun _ _ _ h k=>h.trans k (fun _ h=>h.elim)) [[],[0],[1],[2],[],[4],[5],[6],[7],[8],[3,9],[10],[11]] rfl (by kernel_rfl) (Chg.refl _ _).drew ?_
 iterate 3 ((with_reducible apply Walk.eq);case h=>(intro w2 hw2 N hN;simp only[depM];go_simp;(try go_bits);with_reducible exact hN _ (Chg.refl _ _)))
 ((with_reducible apply Walk.eq);case h=>(intro w2 hw2 N hN;have hq:=hw2.cell c3 (fun h=>h);simp only[depM];go_simp;with_reducible exact hN _ (Chg.refl _ _)))
 iterate 3 ((with_reducible apply Walk.eq);case h=>(intro w2 hw2 N hN;simp only[depM];go_simp;(try go_bits);with_reducible exact hN _ (Chg.refl _ _)))
 ((with_reducible apply Walk.eq);case h=>(intro w2 hw2 N hN;have hq:=hw2.cell c3 (fun h=>h);simp only[depM];go_simp;with_reducible exact hN _ (Chg.refl _ _)))
 iterate 3 ((with_reducible apply Walk.eq);case h=>(intro w2 hw2 N hN;simp only[depM];go_simp;(try go_bits);with_reducible exact hN _ (Chg.refl _ _)))
 ((with_reducible apply Walk.eq);case h=>(intro w2 hw2 N hN;have hq:=hw2.cell hz (fun h=>h);simp only[depM];go_simp;with_reducible exact hN _ (Chg.refl _ _)))
 ((with_reducible apply Walk.eq);case h=>(intro w2 hw2 N hN;simp only[depM];go_simp;(try go_bits);with_reducible exact hN _ (Chg.refl _ _)))
 intro w6 hw6;simp only[List.nil_append,List.cons_append,Fin]
 go_simp;go_wp2_with fail;go_ret;exact⟨rfl,hw6⟩
theorem lend_any (h:LgT w p l sv ss g) (hne:0<ss.length) (hl:ss.length≤100000) (hpl:g.last.pls.length≤1000000) :
  Calls Tryz.prog 22 #[.pointer (some ⟨l,0,none⟩)] w fun e w'=>e = .returned (.int .i64 g.stop)∧Chg Nil w w':=by
 have HL:=Lib.hid (llast_any h hne hl)
 have hls:=h.lastSeg hne
 have HN:Hid (∀ w',Chg Nil w w'→Calls Tryz.prog 82 #[.pointer (some ⟨(ss[ss.length-1]'(by omega)).1,0,none⟩)] w' fun e w''=>e = .returned (.int .i64 g.stop)∧Chg Nil w' w''):=fun w' hw=>by
  have h1:=(h.chg hw (fun _ _ h=>h) (fun _ _ h=>h)).m (ss.length-1) (by omega)
  have e1:g.segs[ss.length-1]'(by have:=h.len;omega)=g.last:=by rw[hls];congr 1;rw[h.len]
  have h2:=snext_any h1 (by rw[e1];exact hpl)
  rw[e1] at h2;exact h2
 obtain⟨q,hq⟩:∃ q,(ss[ss.length-1]'(by omega)).1=q:=⟨_,rfl⟩
 rw[hq] at HL HN
 clear h hls hpl hq;go_enter Tryz.func22,Tryz.ntmps22
 go_wp2_with fail;refine HL.out.mono ?_
 rintro e w1 ⟨rfl,hc1⟩
 have HN1:=Lib.hid (HN.out w1 hc1)
 have HC1:=Lib.hid hc1
 clear hc1;go_wp2_with fail;refine HN1.out.mono ?_
 rintro e w2 ⟨rfl,hc2⟩
 go_wp2_with fail;go_ret;exact⟨rfl,HC1.out.trans hc2 (fun _ h=>h.elim)⟩
end
theorem LgS.cells {B:Nat→Prop}{w w':World}{p l:Nat}{S:Nat→Prop}{sv:Value}{ss:List (Nat×Value)}{d:Dk}{g g':Lg}(h:LgS B w p l S sv ss d g)(hc:Chg (fun k=>k=l) w w')(hb:Box w' l (g'.cells p sv) 140)(hs:g'.segs=g.segs):LgS B w' p l S sv ss d g':=by
 have hz:=hc.size
 have hl:∀ k,THas ss k→¬k=l:=fun k hk e=>(h.lb l (.inl rfl)).2 (e ▸ hk)
 refine⟨fun k hk=>Nat.lt_of_lt_of_le (h.lo k hk) hz,h.a.chg hc (fun k hk e=>(h.sl k hk).2.1 (.inl e)),hb,ownsRow_chg h.o hc (fun k hk e=>?_),by rw[hs];exact h.len,fun i hi=>?_,
  fun k hk=>⟨(h.sl k hk).1,(h.sl k hk).2.1,(h.sl k hk).2.2.1,Nat.lt_of_lt_of_le (h.sl k hk).2.2.2 hz⟩,h.lb,h.tb,h.apart⟩
 ·have h1:w.heap[l]? = _:=h.c
  rcases h.o.2 with ⟨hv,_⟩ | ⟨b,cap,cur,hv,_,hg,_⟩
  ·rw[hv] at hk;cases hk
  ·rw[hv] at hk;obtain rfl:b=k:=Option.some.inj hk
   rw[e,h1] at hg;exact absurd (Obj.cells.inj (Option.some.inj hg)).2.1 (by decide)
 ·have h1:=(h.m i hi).chg hc (fun k hk=>hl k (THas.of hi hk))
  simp only[hs]
  exact h1
end Go.Proofs.YtobegmcbfgnpnaaGreatDoor
