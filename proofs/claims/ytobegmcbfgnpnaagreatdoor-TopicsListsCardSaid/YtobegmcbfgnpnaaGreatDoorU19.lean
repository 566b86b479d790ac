/-
  The disk in memory.
-/
import Derived.Test.YtobegmcbfgnpnaaGreatDoorU18
import Derived.RangeFuncBound
import Derived.RangeFuncNested
set_option linter.unusedVariables false
set_option linter.unusedSimpArgs false
set_option maxHeartbeats 0
set_option maxRecDepth 200000
namespace Go.Proofs.YtobegmcbfgnpnaaGreatDoor
open Go.RowKit Go.Maps
def Has (p mb:Nat) (fs:List (Nm×Nat)) (sv:Nat→Value) (k:Nat):Prop:=k=p∨k=mb∨∃ q∈fs,k=q.2∨Value.room (sv q.2)=some k
structure Dm (w:World) (p mb:Nat) (fs:List (Nm×Nat)) (sv:Nat→Value) (con:Nat→Fl) (room:Nat) (left:Int):Prop where
 c:Box w p [.map (some mb),.int .i64 (room:Nat),.int .i64 left] 107
 m:MapAt w mb fs
 f:∀ q∈fs,Box w q.2 [sv q.2,.int .i64 ((con q.2).safe:Nat)] 110
 o:∀ q∈fs,SlcRow w 5 1 (sv q.2) (con q.2).bytes.length ((con q.2).bytes.map bval)
 nd:(fs.map (·.2)).Nodup
 ap:∀ q∈fs,∀ r∈fs,∀ k,Value.room (sv q.2)=some k→Value.room (sv r.2)=some k→q.2=r.2
theorem box_type {w:World}{g:Nat}{cs cs':List Value}{t t':TypeId}(h:Box w g cs t)(h':Box w g cs' t'):t=t':=by
 have h1:w.heap[g]? = _:=h
 have h2:w.heap[g]? = _:=h'
 rw[h1] at h2;cases h2;rfl
theorem Dm.lt {w:World}{p mb:Nat}{fs:List (Nm×Nat)}{sv:Nat→Value}{con:Nat→Fl}{room:Nat}{left:Int}(h:Dm w p mb fs sv con room left):∀ k,Has p mb fs sv k→k<w.heap.size:=by
 rintro k (rfl | rfl | ⟨q,hq,rfl | hk⟩)
 ·exact (Array.getElem?_eq_some_iff.1 h.c).1
 ·exact h.m.lt
 ·exact (Array.getElem?_eq_some_iff.1 (h.f q hq)).1
 ·exact (h.o q hq).lt k hk
theorem Dm.chg {S:Nat→Prop}{w w':World}{p mb:Nat}{fs:List (Nm×Nat)}{sv:Nat→Value}{con:Nat→Fl}{room:Nat}{left:Int}(h:Dm w p mb fs sv con room left)(hc:Chg S w w')(hn:∀ k,Has p mb fs sv k→¬S k):Dm w' p mb fs sv con room left:=
 ⟨h.c.chg hc (hn _ (.inl rfl)),h.m.chg hc (hn _ (.inr (.inl rfl))),fun q hq=>(h.f q hq).chg hc (hn _ (.inr (.inr ⟨q,hq,.inl rfl⟩))),fun q hq=>(h.o q hq).chg hc (fun k hk=>hn _ (.inr (.inr ⟨q,hq,.inr hk⟩))),h.nd,h.ap⟩
theorem Dm.p_ne {w:World}{p mb:Nat}{fs:List (Nm×Nat)}{sv:Nat→Value}{con:Nat→Fl}{room:Nat}{left:Int}(h:Dm w p mb fs sv con room left):mb≠p∧(∀ q∈fs,q.2≠p∧Value.room (sv q.2)≠some p∧q.2≠mb∧Value.room (sv q.2)≠some mb)∧∀ q∈fs,∀ r∈fs,Value.room (sv q.2)≠some r.2:=by
 refine⟨h.m.ne_row h.c,fun q hq=>⟨fun e=>?_,fun e=>?_,fun e=>?_,fun e=>?_⟩,fun q hq r hr e=>?_⟩
 ·have:=box_type h.c (by rw[←e];exact h.f q hq)
  exact absurd this (by decide)
 ·obtain⟨cur,hcur⟩:=(h.o q hq).row p e
  have h1:w.heap[p]? = _:=h.c
  rw[h1] at hcur;cases hcur
 ·exact h.m.ne_row (h.f q hq) e.symm
 ·obtain⟨cur,hcur⟩:=(h.o q hq).row mb e
  exact h.m.ne_row hcur rfl
 ·obtain⟨cur,hcur⟩:=(h.o q hq).row r.2 e
  have h1:w.heap[r.2]? = _:=h.f r hr
  rw[h1] at hcur;cases hcur
def errD (n:Nat):Value:=if n=0 then .nilIface else .iface 39 (.int .i64 (n:Nat))
theorem Dm.turned {w:World}{p mb:Nat}{fs:List (Nm×Nat)}{sv:Nat→Value}{con:Nat→Fl}{room:Nat}{left:Int}(h:Dm w p mb fs sv con room left) (l':Int) :
  Dm (w.setCell ⟨p,2,none⟩ (.int .i64 l')) p mb fs sv con room l'∧Chg (fun k=>k=p) w (w.setCell ⟨p,2,none⟩ (.int .i64 l')):=by
 have hs:Chg (fun k=>k=p) w (w.setCell ⟨p,2,none⟩ (.int .i64 l')):=Chg.setCell (S:=fun k=>k=p) (p:=⟨p,2,none⟩) (Chg.refl _ w) (.inl rfl) _
 obtain⟨h1,h2,h3⟩:=h.p_ne
 exact⟨⟨h.c.set 2 _,h.m.chg hs h1,fun q hq=>(h.f q hq).chg hs (h2 q hq).1,fun q hq=>(h.o q hq).chg hs (fun k hk e=>(h2 q hq).2.1 (by rw[hk,e])),h.nd,h.ap⟩,hs⟩
theorem works_any {w:World}{p mb:Nat}{fs:List (Nm×Nat)}{sv:Nat→Value}{con:Nat→Fl}{room:Nat}{left:Int}(h:Dm w p mb fs sv con room left)(hl:-1≤left∧left≤9223372036854775807) :
  Calls Tryz.prog 54 #[.pointer (some ⟨p,0,none⟩)] w fun e w'=>e = .returned (.bool (didB left))∧Dm w' p mb fs sv con room (stepL left)∧Chg (fun k=>k=p) w w':=by
 have c2:=h.c.cell (j:=2) rfl
 have y2:=h.c.free 2
 have HD:=Lib.hid h
 by_cases h0:0<left
 ·have hw:wrap64 (left-1)=left-1:=by unfold wrap64;omega
  have HT:=Lib.hid (h.turned (left-1))
  have HB:Hid (didB left=true∧stepL left=left-1):=⟨decide_eq_true (by omega),if_pos h0⟩
  clear h;go_enter Tryz.func54,Tryz.ntmps54
  go_wp2_with fail;go_ret;rw[HB.out.1,HB.out.2];exact⟨rfl,HT.out.1,HT.out.2⟩
 ·clear h;have HB:Hid (didB left=decide (left<0)∧stepL left=left):=⟨by
   unfold didB;by_cases h1:left<0
   ·rw[decide_eq_true h1,decide_eq_true (by omega)]
   ·rw[decide_eq_false h1,decide_eq_false (by omega)],if_neg h0⟩
  go_enter Tryz.func54,Tryz.ntmps54
  go_wp2_with fail;go_ret;rw[HB.out.1,HB.out.2];exact⟨rfl,HD.out,Chg.refl _ _⟩
def FileRes (left:Int) (o:Option Nat) (e:Ending):Prop:=
 (didB left=false∧e = .returned (.tuple #[.pointer none,.iface 39 (.int .i64 14)]))∨
 (didB left=true∧o=none∧e = .returned (.tuple #[.pointer none,.iface 39 (.int .i64 7)]))∨
 (didB left=true∧∃ b,o=some b∧e = .returned (.tuple #[.pointer (some ⟨b,0,none⟩),.nilIface]))
theorem file_any {w:World}{p mb:Nat}{fs:List (Nm×Nat)}{sv:Nat→Value}{con:Nat→Fl}{room:Nat}{left:Int}(h:Dm w p mb fs sv con room left)(hl:-1≤left∧left≤9223372036854775807) (s:ByteArray)(hs:s.size≤maxLen) :
  Calls Tryz.prog 56 #[.pointer (some ⟨p,0,none⟩),.string s] w fun e w'=>
   FileRes left (fs.lookup s.data.toList) e∧Dm w' p mb fs sv con room (stepL left)∧Chg (fun k=>k=p) w w':=by
 have HW:=Lib.hid (works_any h hl)
 have HS:=Lib.hid hs
 clear h hs hl;go_enter Tryz.func56,Tryz.ntmps56
 go_wp2_with (go_at_call 54;refine HW.out.mono ?_)
 rintro e w1 ⟨rfl,hd1,hc1⟩
 have HC1:=Lib.hid hc1
 have c0:=hd1.c.cell (j:=0) rfl
 have hlk:=hd1.m.look HS.out
 have HD1:=Lib.hid hd1
 clear hd1 hc1 HW;obtain⟨x,hx⟩:∃ x,didB left=x:=⟨_,rfl⟩
 have HX:=Lib.hid hx
 rw[hx];clear hx;cases x with
 | false=>
  clear hlk c0;go_wp2_with fail;go_ret2;exact⟨.inl ⟨HX.out,rfl⟩,HD1.out,HC1.out⟩
 | true=>
  obtain⟨o,ho⟩:∃ o,fs.lookup s.data.toList=o:=⟨_,rfl⟩
  have HO:=Lib.hid ho
  rw[ho] at hlk;clear ho;cases o with
  | none=>
   simp only[ptrOf,Option.map_none] at hlk
   go_wp2_with fail;go_ret2;exact⟨.inr (.inl ⟨HX.out,HO.out,rfl⟩),HD1.out,HC1.out⟩
  | some b=>
   simp only[ptrOf,Option.map_some] at hlk
   go_wp2_with fail;go_ret2;exact⟨.inr (.inr ⟨HX.out,b,HO.out,rfl⟩),HD1.out,HC1.out⟩
open Go.Sort Go.Shelf
attribute [local go_sem] Oper.semAt_some
def usedOf (con:Nat→Fl) (bs:List Nat):Nat:=(bs.map fun b=>(con b).bytes.length).sum
theorem usedOf_perm {con:Nat→Fl}{a b:List Nat}(h:a.Perm b):usedOf con a=usedOf con b:=(h.map _).sum_nat
theorem usedOf_snoc (con:Nat→Fl) (a:List Nat) (x:Nat):usedOf con (a++[x])=usedOf con a+(con x).bytes.length:=by simp[usedOf]
theorem usedOf_mem {con:Nat→Fl}:∀ {a:List Nat}{x:Nat},x∈a→(con x).bytes.length≤usedOf con a
 | b::r,x,h=>by
  rcases List.mem_cons.1 h with rfl | h
  ·simp[usedOf]
  ·have:=usedOf_mem (con:=con) h
   simp[usedOf] at this ⊢
   omega
theorem usedOf_le {con:Nat→Fl}{M:Nat}:∀ {a:List Nat},(∀ x∈a,(con x).bytes.length≤M)→usedOf con a≤a.length*M
 | [],_=>by simp[usedOf]
 | b::r,h=>by
  have h1:=h b (by simp)
  have h2:=usedOf_le (a:=r) (fun x hx=>h x (by simp[hx]))
  simp only[usedOf,List.map_cons,List.sum_cons,List.length_cons,Nat.succ_mul] at h2 ⊢
  omega
theorem box_own {β:Type} (B:Nat) (t:TypeId) (f:β→List Value):_root_.Go.Own (fun s W=>Box W B (f s) t):=fun s X Y row hs hg hrow=>by
 have h1:X.heap[B]? = _:=hs
 have hlt:=(Array.getElem?_eq_some_iff.1 h1).1
 refine (hg.block B hlt (fun e=>?_)).trans h1
 obtain⟨o,ho,hc⟩:=hrow B e.symm
 rw[h1] at ho;cases ho;cases hc
theorem used_in {w:World} {p mb:Nat} {fs:List (Nm×Nat)} {sv:Nat→Value} {con:Nat→Fl} {room:Nat} {left:Int} (h:Dm w p mb fs sv con room left) (hu:usedOf con (fs.map (·.2))≤1048576) (hfn:fs.length≤200) :
  CallsIn Fence.wide 6 Tryz.prog 51 #[.pointer (some ⟨p,0,none⟩)] w fun e w'=>e = .returned (.int .i64 (usedOf con (fs.map (·.2)):Nat))∧Below w.heap.size w w':=by
 have hal:=(Chg.refl Nil w).alloc (.cells #[.int .i64 0] 3)
 have c0:=hal.cell (h.c.cell (j:=0) rfl) (fun h=>h)
 have hB1:Box (w.alloc (.cells #[.int .i64 0] 3)) w.heap.size [.int .i64 0] 3:=Box.new w [.int .i64 0] _
 have hal2:=hal.alloc (.cells #[.map (some mb)] 105)
 have hD0:=h.chg hal2 (fun _ _ h=>h)
 have hB2:=hB1.chg ((Chg.refl Nil _).alloc (.cells #[.map (some mb)] 105)) (fun h=>h)
 have hB3:Box ((w.alloc (.cells #[.int .i64 0] 3)).alloc (.cells #[.map (some mb)] 105)) (w.heap.size+1) [.map (some mb)] 105:=by
  have:=Box.new (w.alloc (.cells #[.int .i64 0] 3)) [.map (some mb)] 105
  rwa [World.size_alloc] at this
 have hs2:((w.alloc (.cells #[.int .i64 0] 3)).alloc (.cells #[.map (some mb)] 105)).heap.size=w.heap.size+2:=by simp
 have hBW:Below w.heap.size w ((w.alloc (.cells #[.int .i64 0] 3)).alloc (.cells #[.map (some mb)] 105)):=hal2.below (fun _ _ h=>h)
 refine callsIn_of_wp_marks Tryz.func51 rfl trivial ?_ rfl
 simp only[Tryz.ntmps51,List.size_toArray,List.length_cons,List.length_nil,Nat.reduceAdd,Nat.reduceSub,Array.replicate_succ,Array.replicate_zero,List.push_toArray,List.append_toArray,List.nil_append,List.cons_append]
 have hfv:Fence.wide.fn 107:=trivial
 gi_wp2_with (gi_at_call 107;refine (mvalues_in Fence.wide _ trivial rfl _ _).mono ?_;rintro e w' ⟨rfl,rfl⟩)
 generalize (w.alloc (.cells #[.int .i64 0] 3)).alloc (.cells #[.map (some mb)] 105)=W0 at *;have HH:=Lib.hid h
 clear h c0 hal hal2;refine wpIn_rangeFunc_ownF (α:={b:Nat // b∈fs.map (·.2)}) rfl (by omega) (gf:=164) (lb:=#[.pointer (some ⟨w.heap.size+1,0,none⟩)]) rfl trivial (enters_of Tryz.func164 (by kernel_rfl) rfl)
  (values_stops Fence.wide _ trivial rfl (by omega) (w.heap.size+1) mb fs W0 (by omega) (hB3.cell (j:=0) rfl) hD0.m) walksK_t walksK_b (Below.refl _ _) (fun _=>rfl)
  (fun pre W=>Box W w.heap.size [.int .i64 (usedOf con (pre.map (·.1)):Nat)] 3∧Below w.heap.size w W)
  (fun _ _ _=>False)
  (OwnFrom.and (_root_.Go.Own.from (box_own _ _ _) _) (ownFrom_below (Nat.le_refl _) (by omega)))
  (fun _ _ _ _ _ hs _ _=>hs)
  ⟨hB2,hBW⟩
  (fun x=>{ tmps:=#[.pointer (some ⟨p,0,none⟩),undef,.int .i64 0,.pointer (some ⟨w.heap.size,0,none⟩),encP x.1,.pointer (some ⟨p,0,none⟩),.pointer (some ⟨p,0,none⟩),.pointer (some ⟨p,0,none⟩),.map (some mb),.func (.func 164) #[] #[.pointer (some ⟨w.heap.size+1,0,none⟩)],encP x.1,undef,undef,undef,undef,undef,undef,undef,undef],defers:=[] }) ?assign ?body ?done ?stop
 case assign=>
  intro l x W K hK;gi_wp2
  exact hK
 case body=>
  rintro l pre ⟨x,hx⟩ W ⟨hbox,hB⟩ hlen
  obtain⟨q,hq,rfl⟩:=List.mem_map.1 hx
  have hc:=Chg.of_below hB Nil
  have hfile:=(HH.out.f q hq).chg hc (fun h=>h)
  obtain⟨a,c,hsv,-,-⟩:=(HH.out.o q hq).form
  have y0:=hfile.cell (j:=0) rfl
  rw[hsv] at y0;have n0:=hbox.cell (j:=0) rfl
  have nf:=hbox.free 0
  have hle:usedOf con (pre.map (·.1))≤209715200:=by
   have h1:=usedOf_le (con:=con) (M:=1048576) (a:=pre.map (·.1)) (fun y hy=>by
    obtain⟨z,_,rfl⟩:=List.mem_map.1 hy
    exact Nat.le_trans (usedOf_mem z.2) hu)
   rw[List.length_map] at h1;have h2:pre.length≤200:=by omega
   omega
  have hle2:(con q.2).bytes.length≤1048576:=Nat.le_trans (usedOf_mem hx) hu
  have hsn:usedOf con ((pre++[(⟨q.2,hx⟩:{b:Nat // b∈fs.map (·.2)})]).map (·.1))=usedOf con (pre.map (·.1))+(con q.2).bytes.length:=by
   rw[List.map_append];exact usedOf_snoc con _ _
  have HSN:=Lib.hid hsn
  clear hsn;obtain⟨u,hu9⟩:∃ u,usedOf con (pre.map (·.1))=u:=⟨_,rfl⟩
  rw[hu9] at n0 hle hbox HSN
  obtain⟨m,hm9⟩:∃ m,(con q.2).bytes.length=m:=⟨_,rfl⟩
  rw[hm9] at y0 hle2 HSN
  have hw:wrap64 ((u:Int)+(m:Int))=((u+m:Nat):Int):=by unfold wrap64;omega
  have hw2:IntKind.i64.wrap ((u:Int)+(m:Int))=((u+m:Nat):Int):=by
   rw[IntKind.wrap_i64];omega
  have hset:=hbox.set 0 (.int .i64 ((u:Int)+(m:Int)))
  have HS:=Lib.hid hset
  have HB:=Lib.hid hB
  clear hset hB hfile hc hbox hu9 hm9 hle hle2 hsv;simp only[encP,ptrOf,Option.map_some]
  have hmx:Tryz.prog.follows .mixedOrders=true:=by kernel_rfl
  gi_wp2
  gi_region_with_o (fail)
  all_goals gi_wp2
  all_goals (refine⟨(KeepsOthers.setCell _ _ _).trans (KeepsOthers.drew _),((KeepsOthers.setCell _ _ _).trans (KeepsOthers.drew _)).walks,?_,?_⟩)
  all_goals first
   | exact (HB.out.setCell (p:=⟨w.heap.size,0,none⟩) (Nat.le_refl _) _).drew
   | (rw[HSN.out,Int.natCast_add];exact HS.out)
 case done=>
  rintro D xs W hD hS ⟨hbox,hB⟩ hK
  have n0:=hbox.cell (j:=0) rfl
  rw[usedOf_perm hS] at n0
  gi_wp2
  refine⟨by simp,.inl ⟨_,_,rfl,run_takeDeferred hK,?_⟩⟩
  exact⟨_,results_tmp rfl _ _ _,rfl,hB.trans (belowK_b (w:=w) (Nat.le_refl _) W D _ _ (by omega) hK rfl rfl)⟩
 case stop=>
  rintro D c pre W _ _ h _
  exact h.elim
theorem used_any {w:World}{p mb:Nat}{fs:List (Nm×Nat)}{sv:Nat→Value}{con:Nat→Fl}{room:Nat}{left:Int}(h:Dm w p mb fs sv con room left)(hu:usedOf con (fs.map (·.2))≤1048576)(hfn:fs.length≤200) :
  Calls Tryz.prog 51 #[.pointer (some ⟨p,0,none⟩)] w fun e w'=>e = .returned (.int .i64 (usedOf con (fs.map (·.2)):Nat))∧Chg Nil w w':=
 (callsIn_wide.1 (used_in h hu hfn)).mono fun e w' ⟨h1,h2⟩=>⟨h1,Chg.of_below h2 _⟩
def NewDisk (w w':World) (r:Nat) (e:Ending):Prop:=∃ p mb,e = .returned (.tuple #[.pointer (some ⟨p,0,none⟩),.nilIface])∧w.heap.size≤p∧w.heap.size≤mb∧Dm w' p mb [] (fun _=>undef) (fun _=>⟨[],0⟩) r (-1)∧Chg Nil w w'
theorem new_any (r:Nat)(hr:r≤1048576) (w:World) :
  Calls Tryz.prog 6 #[.int .i64 (r:Nat)] w fun e w'=>NewDisk w w' r e:=by
 have h0:¬(r:Int)<0:=by omega
 have h1:¬(1048576:Int)<(r:Int):=by omega
 have hmm:=@run_makeMap Tryz.prog
 go_enter Tryz.func6,Tryz.ntmps6
 go_wp2_with fail;go_ret2;have hal:=(Chg.refl Nil w).alloc (.map #[] 0)
 have hB:=Box.new (w.alloc (.map #[] 0)) [.map (some w.heap.size),.int .i64 (r:Nat),.int .i64 (-1)] 107
 rw[World.size_alloc] at hB;exact⟨_,_,rfl,by omega,Nat.le_refl _,⟨hB,(MapAt.made w).chg ((Chg.refl Nil _).alloc _) (fun h=>h),by simp,by simp,by simp,by simp⟩,hal.alloc _⟩
def newSv (sv:Nat→Value) (b:Nat):Nat→Value:=fun k=>if k=b then .slice none 0 0 else sv k
def newCon (con:Nat→Fl) (b:Nat):Nat→Fl:=fun k=>if k=b then ⟨[],0⟩ else con k
theorem filter_notin {α:Type}{x:Nm}{fs:List (Nm×α)}(h:fs.lookup x=none):(fs.filter fun p=>decide (p.1≠x))=fs:=by
 rw[List.filter_eq_self];intro q hq;have:=lookup_none.1 h
 simp
 intro e;exact this (List.mem_map.2 ⟨q,hq,e⟩)
theorem Dm.made {w w2:World}{p mb b:Nat}{fs:List (Nm×Nat)}{sv:Nat→Value}{con:Nat→Fl}{room:Nat}{left:Int}(h:Dm w p mb fs sv con room left) {x:Nm}(hx:fs.lookup x=none)
  (hb:b=w.heap.size)(hm:MapAt w2 mb (fs++[(x,b)]))(hc:Chg (fun k=>k=mb) (w.alloc (.cells #[.slice none 0 0,.int .i64 0] 110)) w2) :
  Dm w2 p mb (fs++[(x,b)]) (newSv sv b) (newCon con b) room left∧Chg (Has p mb fs sv) w w2∧∀ k,Has p mb (fs++[(x,b)]) (newSv sv b) k→Has p mb fs sv k∨w.heap.size≤k:=by
 have hal:=(Chg.refl Nil w).alloc (.cells #[.slice none 0 0,.int .i64 0] 110)
 have hch:Chg (fun k=>k=mb) w w2:=hal.weak (fun _ h=>h.elim) |>.trans hc (fun _ h=>.inl h)
 obtain⟨h1,h2,h3⟩:=h.p_ne
 have hlt:∀ q∈fs,q.2≠b:=fun q hq e=>by
  have:=h.lt q.2 (.inr (.inr ⟨q,hq,.inl rfl⟩))
  omega
 have hmb:mb≠b:=fun e=>by have:=h.lt mb (.inr (.inl rfl));omega
 have hold:∀ q∈fs,newSv sv b q.2=sv q.2∧newCon con b q.2=con q.2:=fun q hq=>⟨if_neg (hlt q hq),if_neg (hlt q hq)⟩
 have hnew:newSv sv b b = .slice none 0 0∧newCon con b b=⟨[],0⟩:=⟨if_pos rfl,if_pos rfl⟩
 have hbox:Box w2 b [.slice none 0 0,.int .i64 0] 110:=by
  have:=Box.new w [.slice none 0 0,.int .i64 0] 110
  rw[←hb] at this;exact this.chg hc (fun e=>hmb e.symm)
 refine⟨⟨h.c.chg hch (fun e=>h1 e.symm),hm,fun q hq=>?_,fun q hq=>?_,?_,fun q hq r hr k hk1 hk2=>?_⟩,hch.weak (fun k hk=>.inl (.inr (.inl hk))),?_⟩
 ·rcases List.mem_append.1 hq with hq | hq
  ·rw[(hold q hq).1,(hold q hq).2]
   exact (h.f q hq).chg hch (h2 q hq).2.2.1
  ·simp at hq;subst hq;rw[hnew.1,hnew.2];exact hbox
 ·rcases List.mem_append.1 hq with hq | hq
  ·rw[(hold q hq).1,(hold q hq).2]
   exact (h.o q hq).chg hch (fun k hk e=>(h2 q hq).2.2.2 (by rw[hk,e]))
  ·simp at hq;subst hq;rw[hnew.1,hnew.2];exact SlcRow.nil _ _ _
 ·rw[List.map_append];refine List.nodup_append.2 ⟨h.nd,by simp,fun y hy z hz e=>?_⟩
  simp at hz
  obtain⟨q,hq,rfl⟩:=List.mem_map.1 hy
  exact hlt q hq (by rw[e,hz])
 ·rcases List.mem_append.1 hq with hq | hq
  ·rcases List.mem_append.1 hr with hr | hr
   ·rw[(hold q hq).1] at hk1
    rw[(hold r hr).1] at hk2
    exact h.ap q hq r hr k hk1 hk2
   ·simp at hr;subst hr;rw[hnew.1] at hk2;cases hk2
  ·simp at hq;subst hq;rw[hnew.1] at hk1;cases hk1
 ·rintro k (rfl | rfl | ⟨q,hq,hk⟩)
  ·exact .inl (.inl rfl)
  ·exact .inl (.inr (.inl rfl))
  ·rcases List.mem_append.1 hq with hq | hq
   ·rw[(hold q hq).1] at hk
    exact .inl (.inr (.inr ⟨q,hq,hk⟩))
   ·simp at hq;subst hq;rw[hnew.1] at hk;rcases hk with rfl | hk
    ·exact .inr (by omega)
    ·cases hk
end Go.Proofs.YtobegmcbfgnpnaaGreatDoor
