/-
  The disk in memory.
-/
import Derived.Test.YtdjmifaidgbbaaaGreatDoorT07
import Derived.RangeFuncBound
import Derived.RangeFuncNested
import Derived.Shelf.SortM.Plain
import Derived.Shelf.SortM.SortNone
import Derived.Shelf.Small.Wraps
import Derived.Shelf.Strings.SlTrimAscii
import Derived.Shelf.Strings.Repeat
import Derived.Shelf.Strings.OnBuilder
import Derived.Shelf.Strconv.Itoa4
import Derived.Shelf.Strconv.ErrVarAll
set_option linter.unusedVariables false
set_option linter.unusedSimpArgs false
set_option maxHeartbeats 0
set_option maxRecDepth 200000
namespace Go.Proofs.YtdjmifaidgbbaaaGreatDoor
open Go.RowKit Go.Maps
def Has (p mb:Nat) (fs:List (Nm×Nat)) (sv:Nat→Value) (k:Nat):Prop:=k=p∨k=mb∨∃ q∈fs,k=q.2∨Value.room (sv q.2)=some k
structure Dm (w:World) (p mb:Nat) (fs:List (Nm×Nat)) (sv:Nat→Value) (con:Nat→Fl) (room:Nat) (left:Int):Prop where
 c:Box w p [.map (some mb),.int .i64 (room:Nat),.int .i64 left] 96
 m:MapAt w mb fs
 f:∀ q∈fs,Box w q.2 [sv q.2,.int .i64 ((con q.2).safe:Nat)] 141
 o:∀ q∈fs,SlcRow w 5 1 (sv q.2) (con q.2).bytes.length ((con q.2).bytes.map bval)
 nd:(fs.map (·.2)).Nodup
 ap:∀ q∈fs,∀ r∈fs,∀ k,Value.room (sv q.2)=some k→Value.room (sv r.2)=some k→q.2=r.2
theorem box_type {w:World}{g:Nat}{cs cs':List Value}{t t':TypeId}(h:Box w g cs t)(h':Box w g cs' t'):t=t':=by
 have h1:w.heap[g]? = _:=h
 have h2:w.heap[g]? = _:=h'
 rw[h1] at h2;cases h2;rfl
theorem Dm.lt {w:World}{p mb:Nat}{fs:List (Nm×Nat)}{sv:Nat→Value}{con:Nat→Fl}{room:Nat}{left:Int}(h:Dm w p mb fs sv con room left):∀ k,Has p mb fs sv k→k<w.heap.size:=by
 rintro k (rfl | rfl | ⟨q,hq,rfl | hk⟩)
 ·exact (Array.getElem?_eq_some_iff.1 h.c).1
 ·exact h.m.lt
 ·exact (Array.getElem?_eq_some_iff.1 (h.f q hq)).1
 ·exact (h.o q hq).lt k hk
theorem Dm.chg {S:Nat→Prop}{w w':World}{p mb:Nat}{fs:List (Nm×Nat)}{sv:Nat→Value}{con:Nat→Fl}{room:Nat}{left:Int}(h:Dm w p mb fs sv con room left)(hc:Chg S w w')(hn:∀ k,Has p mb fs sv k→¬S k):Dm w' p mb fs sv con room left:=
 ⟨h.c.chg hc (hn _ (.inl rfl)),h.m.chg hc (hn _ (.inr (.inl rfl))),fun q hq=>(h.f q hq).chg hc (hn _ (.inr (.inr ⟨q,hq,.inl rfl⟩))),fun q hq=>(h.o q hq).chg hc (fun k hk=>hn _ (.inr (.inr ⟨q,hq,.inr hk⟩))),h.nd,h.ap⟩
theorem Dm.p_ne {w:World}{p mb:Nat}{fs:List (Nm×Nat)}{sv:Nat→Value}{con:Nat→Fl}{room:Nat}{left:Int}(h:Dm w p mb fs sv con room left):mb≠p∧(∀ q∈fs,q.2≠p∧Value.room (sv q.2)≠some p∧q.2≠mb∧Value.room (sv q.2)≠some mb)∧∀ q∈fs,∀ r∈fs,Value.room (sv q.2)≠some r.2:=by
 refine⟨h.m.ne_row h.c,fun q hq=>⟨fun e=>?_,fun e=>?_,fun e=>?_,fun e=>?_⟩,fun q hq r hr e=>?_⟩
 ·have:=box_type h.c (by rw[←e];exact h.f q hq)
  exact absurd this (by decide)
 ·obtain⟨cur,hcur⟩:=(h.o q hq).row p e
  have h1:w.heap[p]? = _:=h.c
  rw[h1] at hcur;cases hcur
 ·exact h.m.ne_row (h.f q hq) e.symm
 ·obtain⟨cur,hcur⟩:=(h.o q hq).row mb e
  exact h.m.ne_row hcur rfl
 ·obtain⟨cur,hcur⟩:=(h.o q hq).row r.2 e
  have h1:w.heap[r.2]? = _:=h.f r hr
  rw[h1] at hcur;cases hcur
def errD (n:Nat):Value:=if n=0 then .nilIface else .iface 65 (.int .i64 (n:Nat))
theorem Dm.turned {w:World}{p mb:Nat}{fs:List (Nm×Nat)}{sv:Nat→Value}{con:Nat→Fl}{room:Nat}{left:Int}(h:Dm w p mb fs sv con room left) (l':Int) :
  Dm (w.setCell ⟨p,2,none⟩ (.int .i64 l')) p mb fs sv con room l'∧Chg (fun k=>k=p) w (w.setCell ⟨p,2,none⟩ (.int .i64 l')):=by
 have hs:Chg (fun k=>k=p) w (w.setCell ⟨p,2,none⟩ (.int .i64 l')):=Chg.setCell (S:=fun k=>k=p) (p:=⟨p,2,none⟩) (Chg.refl _ w) (.inl rfl) _
 obtain⟨h1,h2,h3⟩:=h.p_ne
 exact⟨⟨h.c.set 2 _,h.m.chg hs h1,fun q hq=>(h.f q hq).chg hs (h2 q hq).1,fun q hq=>(h.o q hq).chg hs (fun k hk e=>(h2 q hq).2.1 (by rw[hk,e])),h.nd,h.ap⟩,hs⟩
theorem works_any {w:World}{p mb:Nat}{fs:List (Nm×Nat)}{sv:Nat→Value}{con:Nat→Fl}{room:Nat}{left:Int}(h:Dm w p mb fs sv con room left)(hl:-1≤left∧left≤9223372036854775807) :
  Calls Tryz.prog 126 #[.pointer (some ⟨p,0,none⟩)] w fun e w'=>e = .returned (.bool (didB left))∧Dm w' p mb fs sv con room (stepL left)∧Chg (fun k=>k=p) w w':=by
 have c2:=h.c.cell (j:=2) rfl
 have y2:=h.c.free 2
 have HD:=Lib.hid h
 by_cases h0:0<left
 ·have hw:wrap64 (left-1)=left-1:=by unfold wrap64;omega
  have HT:=Lib.hid (h.turned (left-1))
  have HB:Hid (didB left=true∧stepL left=left-1):=⟨decide_eq_true (by omega),if_pos h0⟩
  clear h;go_enter Tryz.func126,Tryz.ntmps126
  go_wp2_with fail;go_ret;rw[HB.out.1,HB.out.2];exact⟨rfl,HT.out.1,HT.out.2⟩
 ·clear h;have HB:Hid (didB left=decide (left<0)∧stepL left=left):=⟨by
   unfold didB;by_cases h1:left<0
   ·rw[decide_eq_true h1,decide_eq_true (by omega)]
   ·rw[decide_eq_false h1,decide_eq_false (by omega)],if_neg h0⟩
  go_enter Tryz.func126,Tryz.ntmps126
  go_wp2_with fail;go_ret;rw[HB.out.1,HB.out.2];exact⟨rfl,HD.out,Chg.refl _ _⟩
def FileRes (left:Int) (o:Option Nat) (e:Ending):Prop:=
 (didB left=false∧e = .returned (.tuple #[.pointer none,.iface 65 (.int .i64 14)]))∨
 (didB left=true∧o=none∧e = .returned (.tuple #[.pointer none,.iface 65 (.int .i64 7)]))∨
 (didB left=true∧∃ b,o=some b∧e = .returned (.tuple #[.pointer (some ⟨b,0,none⟩),.nilIface]))
theorem file_any {w:World}{p mb:Nat}{fs:List (Nm×Nat)}{sv:Nat→Value}{con:Nat→Fl}{room:Nat}{left:Int}(h:Dm w p mb fs sv con room left)(hl:-1≤left∧left≤9223372036854775807) (s:ByteArray)(hs:s.size≤maxLen) :
  Calls Tryz.prog 88 #[.pointer (some ⟨p,0,none⟩),.string s] w fun e w'=>
   FileRes left (fs.lookup s.data.toList) e∧Dm w' p mb fs sv con room (stepL left)∧Chg (fun k=>k=p) w w':=by
 have HW:=Lib.hid (works_any h hl)
 have HS:=Lib.hid hs
 clear h hs hl;go_enter Tryz.func88,Tryz.ntmps88
 go_wp2_with (go_at_call 126;refine HW.out.mono ?_)
 rintro e w1 ⟨rfl,hd1,hc1⟩
 have HC1:=Lib.hid hc1
 have c0:=hd1.c.cell (j:=0) rfl
 have hlk:=hd1.m.look HS.out
 have HD1:=Lib.hid hd1
 clear hd1 hc1 HW;obtain⟨x,hx⟩:∃ x,didB left=x:=⟨_,rfl⟩
 have HX:=Lib.hid hx
 rw[hx];clear hx;cases x with
 | false=>
  clear hlk c0;go_wp2_with fail;go_ret2;exact⟨.inl ⟨HX.out,rfl⟩,HD1.out,HC1.out⟩
 | true=>
  obtain⟨o,ho⟩:∃ o,fs.lookup s.data.toList=o:=⟨_,rfl⟩
  have HO:=Lib.hid ho
  rw[ho] at hlk;clear ho;cases o with
  | none=>
   simp only[ptrOf,Option.map_none] at hlk
   go_wp2_with fail;go_ret2;exact⟨.inr (.inl ⟨HX.out,HO.out,rfl⟩),HD1.out,HC1.out⟩
  | some b=>
   simp only[ptrOf,Option.map_some] at hlk
   go_wp2_with fail;go_ret2;exact⟨.inr (.inr ⟨HX.out,b,HO.out,rfl⟩),HD1.out,HC1.out⟩
open Go.Sort Go.Shelf
attribute [local go_sem] Oper.semAt_some
def usedOf (con:Nat→Fl) (bs:List Nat):Nat:=(bs.map fun b=>(con b).bytes.length).sum
theorem usedOf_perm {con:Nat→Fl}{a b:List Nat}(h:a.Perm b):usedOf con a=usedOf con b:=(h.map _).sum_nat
theorem usedOf_snoc (con:Nat→Fl) (a:List Nat) (x:Nat):usedOf con (a++[x])=usedOf con a+(con x).bytes.length:=by simp[usedOf]
theorem usedOf_mem {con:Nat→Fl}:∀ {a:List Nat}{x:Nat},x∈a→(con x).bytes.length≤usedOf con a
 | b::r,x,h=>by
  rcases List.mem_cons.1 h with rfl | h
  ·simp[usedOf]
  ·have:=usedOf_mem (con:=con) h
   simp[usedOf] at this ⊢
   omega
theorem usedOf_le {con:Nat→Fl}{M:Nat}:∀ {a:List Nat},(∀ x∈a,(con x).bytes.length≤M)→usedOf con a≤a.length*M
 | [],_=>by simp[usedOf]
 | b::r,h=>by
  have h1:=h b (by simp)
  have h2:=usedOf_le (a:=r) (fun x hx=>h x (by simp[hx]))
  simp only[usedOf,List.map_cons,List.sum_cons,List.length_cons,Nat.succ_mul] at h2 ⊢
  omega
theorem box_own {β:Type} (B:Nat) (t:TypeId) (f:β→List Value):_root_.Go.Own (fun s W=>Box W B (f s) t):=fun s X Y row hs hg hrow=>by
 have h1:X.heap[B]? = _:=hs
 have hlt:=(Array.getElem?_eq_some_iff.1 h1).1
 refine (hg.block B hlt (fun e=>?_)).trans h1
 obtain⟨o,ho,hc⟩:=hrow B e.symm
 rw[h1] at ho;cases ho;cases hc
theorem used_in {w:World} {p mb:Nat} {fs:List (Nm×Nat)} {sv:Nat→Value} {con:Nat→Fl} {room:Nat} {left:Int} (h:Dm w p mb fs sv con room left) (hu:usedOf con (fs.map (·.2))≤1048576) (hfn:fs.length≤200) :
  CallsIn Fence.wide 6 Tryz.prog 132 #[.pointer (some ⟨p,0,none⟩)] w fun e w'=>e = .returned (.int .i64 (usedOf con (fs.map (·.2)):Nat))∧Below w.heap.size w w':=by
 have hal:=(Chg.refl Nil w).alloc (.cells #[.int .i64 0] 3)
 have c0:=hal.cell (h.c.cell (j:=0) rfl) (fun h=>h)
 have hB1:Box (w.alloc (.cells #[.int .i64 0] 3)) w.heap.size [.int .i64 0] 3:=Box.new w [.int .i64 0] _
 have hal2:=hal.alloc (.cells #[.map (some mb)] 94)
 have hD0:=h.chg hal2 (fun _ _ h=>h)
 have hB2:=hB1.chg ((Chg.refl Nil _).alloc (.cells #[.map (some mb)] 94)) (fun h=>h)
 have hB3:Box ((w.alloc (.cells #[.int .i64 0] 3)).alloc (.cells #[.map (some mb)] 94)) (w.heap.size+1) [.map (some mb)] 94:=by
  have:=Box.new (w.alloc (.cells #[.int .i64 0] 3)) [.map (some mb)] 94
  rwa [World.size_alloc] at this
 have hs2:((w.alloc (.cells #[.int .i64 0] 3)).alloc (.cells #[.map (some mb)] 94)).heap.size=w.heap.size+2:=by simp
 have hBW:Below w.heap.size w ((w.alloc (.cells #[.int .i64 0] 3)).alloc (.cells #[.map (some mb)] 94)):=hal2.below (fun _ _ h=>h)
 refine callsIn_of_wp_marks Tryz.func132 rfl trivial ?_ rfl
 simp only[Tryz.ntmps132,List.size_toArray,List.length_cons,List.length_nil,Nat.reduceAdd,Nat.reduceSub,Array.replicate_succ,Array.replicate_zero,List.push_toArray,List.append_toArray,List.nil_append,List.cons_append]
 have hfv:Fence.wide.fn 162:=trivial
 gi_wp2_with (gi_at_call 162;refine (mvalues_in Fence.wide _ trivial rfl _ _).mono ?_;rintro e w' ⟨rfl,rfl⟩)
 generalize (w.alloc (.cells #[.int .i64 0] 3)).alloc (.cells #[.map (some mb)] 94)=W0 at *;have HH:=Lib.hid h
 clear h c0 hal hal2;refine wpIn_rangeFunc_ownF (α:={b:Nat // b∈fs.map (·.2)}) rfl (by omega) (gf:=187) (lb:=#[.pointer (some ⟨w.heap.size+1,0,none⟩)]) rfl trivial (enters_of Tryz.func187 (by kernel_rfl) rfl)
  (values_stops Fence.wide _ trivial rfl (by omega) (w.heap.size+1) mb fs W0 (by omega) (hB3.cell (j:=0) rfl) hD0.m) walksK_t walksK_b (Below.refl _ _) (fun _=>rfl)
  (fun pre W=>Box W w.heap.size [.int .i64 (usedOf con (pre.map (·.1)):Nat)] 3∧Below w.heap.size w W)
  (fun _ _ _=>False)
  (OwnFrom.and (_root_.Go.Own.from (box_own _ _ _) _) (ownFrom_below (Nat.le_refl _) (by omega)))
  (fun _ _ _ _ _ hs _ _=>hs)
  ⟨hB2,hBW⟩
  (fun x=>{ tmps:=#[.pointer (some ⟨p,0,none⟩),undef,.int .i64 0,.pointer (some ⟨w.heap.size,0,none⟩),encP x.1,.pointer (some ⟨p,0,none⟩),.pointer (some ⟨p,0,none⟩),.pointer (some ⟨p,0,none⟩),.map (some mb),.func (.func 187) #[] #[.pointer (some ⟨w.heap.size+1,0,none⟩)],encP x.1,undef,undef,undef,undef,undef,undef,undef,undef],defers:=[] }) ?assign ?body ?done ?stop
 case assign=>
  intro l x W K hK;gi_wp2
  exact hK
 case body=>
  rintro l pre ⟨x,hx⟩ W ⟨hbox,hB⟩ hlen
  obtain⟨q,hq,rfl⟩:=List.mem_map.1 hx
  have hc:=Chg.of_below hB Nil
  have hfile:=(HH.out.f q hq).chg hc (fun h=>h)
  obtain⟨a,c,hsv,_,_⟩:=(HH.out.o q hq).form
  have y0:=hfile.cell (j:=0) rfl
  rw[hsv] at y0;have n0:=hbox.cell (j:=0) rfl
  have nf:=hbox.free 0
  have hle:usedOf con (pre.map (·.1))≤209715200:=by
   have h1:=usedOf_le (con:=con) (M:=1048576) (a:=pre.map (·.1)) (fun y hy=>by
    obtain⟨z,_,rfl⟩:=List.mem_map.1 hy
    exact Nat.le_trans (usedOf_mem z.2) hu)
   rw[List.length_map] at h1;have h2:pre.length≤200:=by omega
   omega
  have hle2:(con q.2).bytes.length≤1048576:=Nat.le_trans (usedOf_mem hx) hu
  have hsn:usedOf con ((pre++[(⟨q.2,hx⟩:{b:Nat // b∈fs.map (·.2)})]).map (·.1))=usedOf con (pre.map (·.1))+(con q.2).bytes.length:=by
   rw[List.map_append];exact usedOf_snoc con _ _
  have HSN:=Lib.hid hsn
  clear hsn;obtain⟨u,hu9⟩:∃ u,usedOf con (pre.map (·.1))=u:=⟨_,rfl⟩
  rw[hu9] at n0 hle hbox HSN
  obtain⟨m,hm9⟩:∃ m,(con q.2).bytes.length=m:=⟨_,rfl⟩
  rw[hm9] at y0 hle2 HSN
  have hw:wrap64 ((u:Int)+(m:Int))=((u+m:Nat):Int):=by unfold wrap64;omega
  have hw2:IntKind.i64.wrap ((u:Int)+(m:Int))=((u+m:Nat):Int):=by
   have:IntKind.i64.wrap ((u:Int)+(m:Int))=wrap64 ((u:Int)+(m:Int)):=by go_bits;trivial
   rw[this,hw]
  have hset:=hbox.set 0 (.int .i64 ((u:Int)+(m:Int)))
  have HS:=Lib.hid hset
  have HB:=Lib.hid hB
  clear hset hB hfile hc hbox hu9 hm9 hle hle2 hsv;simp only[encP,ptrOf,Option.map_some]
  have hmx:Tryz.prog.follows .mixedOrders=true:=by kernel_rfl
  gi_wp2
  gi_region_with_o (fail)
  all_goals gi_wp2
  all_goals (refine⟨(KeepsOthers.setCell _ _ _).trans (KeepsOthers.drew _),((KeepsOthers.setCell _ _ _).trans (KeepsOthers.drew _)).walks,?_,?_⟩)
  all_goals first
   | exact (HB.out.setCell (p:=⟨w.heap.size,0,none⟩) (Nat.le_refl _) _).drew
   | (rw[HSN.out,Int.natCast_add];exact HS.out)
 case done=>
  rintro D xs W hD hS ⟨hbox,hB⟩ hK
  have n0:=hbox.cell (j:=0) rfl
  rw[usedOf_perm hS] at n0
  gi_wp2
  refine⟨by simp,.inl ⟨_,_,rfl,run_takeDeferred hK,?_⟩⟩
  exact⟨_,results_tmp rfl _ _ _,rfl,hB.trans (belowK_b (w:=w) (Nat.le_refl _) W D _ _ (by omega) hK rfl rfl)⟩
 case stop=>
  rintro D c pre W _ _ h _
  exact h.elim
end Go.Proofs.YtdjmifaidgbbaaaGreatDoor
namespace Go.Proofs
open Go.Shelf
def Tryz.lays99_ren:Go.Shelf.Ren:=⟨fun | 99=>82 | 206=>117 | n=>n,fun | 9=>9 | 4=>4 | 3=>3 | n=>n,fun | n=>n⟩
theorem Tryz.lays99:Go.Proofs.Lays.n99 Tryz.prog Tryz.lays99_ren:={
 mixed:=by kernel_rfl
 f99:=Tryz.func82.trans (congrArg some (by kernel_rfl))
 f206:=Tryz.func117.trans (congrArg some (by kernel_rfl))
 t3:=Tryz.underlying3
 a3:=Tryz.isAgg3
 z3:=Tryz.sizeOf3
 v3:=Tryz.zeroValue3
 t4:=Tryz.underlying4
 a4:=Tryz.isAgg4
 z4:=Tryz.sizeOf4
 v4:=Tryz.zeroValue4
 t9:=Tryz.underlying9
 a9:=Tryz.isAgg9
 z9:=Tryz.sizeOf9
 v9:=Tryz.zeroValue9 }
def Tryz.lays103_ren:Go.Shelf.Ren:=⟨fun | 103=>84 | 210=>120 | 206=>117 | n=>n,fun | 9=>9 | 4=>4 | 24=>147 | 3=>3 | n=>n,fun | n=>n⟩
theorem Tryz.lays103:Go.Proofs.Lays.n103 Tryz.prog Tryz.lays103_ren:={
 mixed:=by kernel_rfl
 f103:=Tryz.func84.trans (congrArg some (by kernel_rfl))
 f206:=Tryz.func117.trans (congrArg some (by kernel_rfl))
 f210:=Tryz.func120.trans (congrArg some (by kernel_rfl))
 t3:=Tryz.underlying3
 a3:=Tryz.isAgg3
 z3:=Tryz.sizeOf3
 v3:=Tryz.zeroValue3
 t4:=Tryz.underlying4
 a4:=Tryz.isAgg4
 z4:=Tryz.sizeOf4
 v4:=Tryz.zeroValue4
 t9:=Tryz.underlying9
 a9:=Tryz.isAgg9
 z9:=Tryz.sizeOf9
 v9:=Tryz.zeroValue9
 t24:=Tryz.underlying147
 a24:=Tryz.isAgg147
 z24:=Tryz.sizeOf147
 v24:=Tryz.zeroValue147 }
def Tryz.lays104_ren:Go.Shelf.Ren:=⟨fun | 104=>85 | 211=>121 | 207=>148 | n=>n,fun | 9=>9 | 4=>4 | 24=>147 | 3=>3 | n=>n,fun | n=>n⟩
theorem Tryz.lays104:Go.Proofs.Lays.n104 Tryz.prog Tryz.lays104_ren:={
 mixed:=by kernel_rfl
 f104:=Tryz.func85.trans (congrArg some (by kernel_rfl))
 f207:=Tryz.func148.trans (congrArg some (by kernel_rfl))
 f211:=Tryz.func121.trans (congrArg some (by kernel_rfl))
 t3:=Tryz.underlying3
 a3:=Tryz.isAgg3
 z3:=Tryz.sizeOf3
 v3:=Tryz.zeroValue3
 t4:=Tryz.underlying4
 a4:=Tryz.isAgg4
 z4:=Tryz.sizeOf4
 v4:=Tryz.zeroValue4
 t9:=Tryz.underlying9
 a9:=Tryz.isAgg9
 z9:=Tryz.sizeOf9
 v9:=Tryz.zeroValue9
 t24:=Tryz.underlying147
 a24:=Tryz.isAgg147
 z24:=Tryz.sizeOf147
 v24:=Tryz.zeroValue147 }
def Tryz.lays105_ren:Go.Shelf.Ren:=⟨fun | 105=>125 | 212=>155 | 99=>82 | 165=>156 | 166=>157 | 170=>158 | 169=>159 | 263=>176 | 264=>177 | 206=>117 | 240=>178 | 241=>179 | 276=>195 | 277=>196 | n=>n,fun | 9=>9 | 3=>3 | 4=>4 | 20=>20 | 0=>0 | 46=>110 | 109=>224 | 5=>5 | 72=>228 | 76=>34 | 51=>195 | 146=>259 | 53=>208 | 148=>261 | 70=>226 | 37=>57 | 75=>25 | 127=>263 | 164=>196 | 80=>193 | n=>n,fun | n=>n⟩
theorem Tryz.lays105:Go.Proofs.Lays.n105 Tryz.prog Tryz.lays105_ren:={
 mixed:=by kernel_rfl
 f99:=Tryz.func82.trans (congrArg some (by kernel_rfl))
 f105:=Tryz.func125.trans (congrArg some (by kernel_rfl))
 f165:=Tryz.func156.trans (congrArg some (by kernel_rfl))
 f166:=Tryz.func157.trans (congrArg some (by kernel_rfl))
 f169:=Tryz.func159.trans (congrArg some (by kernel_rfl))
 f170:=Tryz.func158.trans (congrArg some (by kernel_rfl))
 f206:=Tryz.func117.trans (congrArg some (by kernel_rfl))
 f212:=Tryz.func155.trans (congrArg some (by kernel_rfl))
 f240:=Tryz.func178.trans (congrArg some (by kernel_rfl))
 f241:=Tryz.func179.trans (congrArg some (by kernel_rfl))
 f263:=Tryz.func176.trans (congrArg some (by kernel_rfl))
 f264:=Tryz.func177.trans (congrArg some (by kernel_rfl))
 f276:=Tryz.func195.trans (congrArg some (by kernel_rfl))
 f277:=Tryz.func196.trans (congrArg some (by kernel_rfl))
 t0:=Tryz.underlying0
 a0:=Tryz.isAgg0
 z0:=Tryz.sizeOf0
 v0:=Tryz.zeroValue0
 t3:=Tryz.underlying3
 a3:=Tryz.isAgg3
 z3:=Tryz.sizeOf3
 v3:=Tryz.zeroValue3
 t4:=Tryz.underlying4
 a4:=Tryz.isAgg4
 z4:=Tryz.sizeOf4
 v4:=Tryz.zeroValue4
 t5:=Tryz.underlying5
 a5:=Tryz.isAgg5
 z5:=Tryz.sizeOf5
 v5:=Tryz.zeroValue5
 t9:=Tryz.underlying9
 a9:=Tryz.isAgg9
 z9:=Tryz.sizeOf9
 v9:=Tryz.zeroValue9
 t20:=Tryz.underlying20
 a20:=Tryz.isAgg20
 z20:=Tryz.sizeOf20
 v20:=Tryz.zeroValue20
 t37:=Tryz.underlying57
 a37:=Tryz.isAgg57
 z37:=Tryz.sizeOf57
 v37:=Tryz.zeroValue57
 t46:=Tryz.underlying110
 a46:=Tryz.isAgg110
 z46:=Tryz.sizeOf110
 v46:=Tryz.zeroValue110
 t51:=Tryz.underlying195
 a51:=Tryz.isAgg195
 z51:=Tryz.sizeOf195
 v51:=Tryz.zeroValue195
 t53:=Tryz.underlying208
 a53:=Tryz.isAgg208
 z53:=Tryz.sizeOf208
 v53:=Tryz.zeroValue208
 t70:=Tryz.underlying226
 a70:=Tryz.isAgg226
 z70:=Tryz.sizeOf226
 v70:=Tryz.zeroValue226
 t72:=Tryz.underlying228
 a72:=Tryz.isAgg228
 z72:=Tryz.sizeOf228
 v72:=Tryz.zeroValue228
 t75:=Tryz.underlying25
 a75:=Tryz.isAgg25
 z75:=Tryz.sizeOf25
 v75:=Tryz.zeroValue25
 t76:=Tryz.underlying34
 a76:=Tryz.isAgg34
 z76:=Tryz.sizeOf34
 v76:=Tryz.zeroValue34
 t109:=Tryz.underlying224
 a109:=Tryz.isAgg224
 z109:=Tryz.sizeOf224
 v109:=Tryz.zeroValue224
 t127:=Tryz.underlying263
 a127:=Tryz.isAgg263
 z127:=Tryz.sizeOf263
 v127:=Tryz.zeroValue263
 t146:=Tryz.underlying259
 a146:=Tryz.isAgg259
 z146:=Tryz.sizeOf259
 v146:=Tryz.zeroValue259
 t148:=Tryz.underlying261
 a148:=Tryz.isAgg261
 z148:=Tryz.sizeOf261
 v148:=Tryz.zeroValue261
 t164:=Tryz.underlying196
 a164:=Tryz.isAgg196
 z164:=Tryz.sizeOf196
 v164:=Tryz.zeroValue196 }
theorem Tryz.Builder_Extra_105:Builder.Extra Tryz.prog Tryz.lays105_ren:={
 sizeBuilder:=by kernel_rfl
 liesBuilder:=by kernel_rfl
 t5:=Tryz.underlying5
 a5:=Tryz.isAgg5
 z5:=Tryz.sizeOf5
 v5:=Tryz.zeroValue5
 infoByte:=by kernel_rfl
 cellsByte:=by kernel_rfl
 sizeByte:=by kernel_rfl
 neB5:=by decide }
def Tryz.lays160_ren:Go.Shelf.Ren:=⟨fun | 160=>161 | 232=>181 | 231=>180 | 227=>182 | 234=>184 | 233=>183 | 236=>186 | 235=>185 | 228=>197 | 271=>200 | 151=>199 | 197=>198 | 120=>207 | 152=>206 | 260=>205 | 137=>210 | 119=>211 | 224=>212 | 225=>213 | 217=>214 | 266=>215 | n=>n,fun | 9=>9 | 4=>4 | 3=>3 | 5=>5 | 117=>267 | 116=>266 | 0=>0 | 124=>270 | 21=>21 | 105=>284 | 46=>110 | 119=>292 | 139=>295 | 138=>294 | n=>n,fun | 3=>5 | 4=>6 | n=>n⟩
theorem Tryz.lays160:Go.Proofs.Lays.n160 Tryz.prog Tryz.lays160_ren:={
 mixed:=by kernel_rfl
 f119:=Tryz.func211.trans (congrArg some (by kernel_rfl))
 f120:=Tryz.func207.trans (congrArg some (by kernel_rfl))
 f137:=Tryz.func210.trans (congrArg some (by kernel_rfl))
 f151:=Tryz.func199.trans (congrArg some (by kernel_rfl))
 f152:=Tryz.func206.trans (congrArg some (by kernel_rfl))
 f160:=Tryz.func161.trans (congrArg some (by kernel_rfl))
 f197:=Tryz.func198.trans (congrArg some (by kernel_rfl))
 f217:=Tryz.func214.trans (congrArg some (by kernel_rfl))
 f224:=Tryz.func212.trans (congrArg some (by kernel_rfl))
 f225:=Tryz.func213.trans (congrArg some (by kernel_rfl))
 f227:=Tryz.func182.trans (congrArg some (by kernel_rfl))
 f228:=Tryz.func197.trans (congrArg some (by kernel_rfl))
 f231:=Tryz.func180.trans (congrArg some (by kernel_rfl))
 f232:=Tryz.func181.trans (congrArg some (by kernel_rfl))
 f233:=Tryz.func183.trans (congrArg some (by kernel_rfl))
 f234:=Tryz.func184.trans (congrArg some (by kernel_rfl))
 f235:=Tryz.func185.trans (congrArg some (by kernel_rfl))
 f236:=Tryz.func186.trans (congrArg some (by kernel_rfl))
 f260:=Tryz.func205.trans (congrArg some (by kernel_rfl))
 f266:=Tryz.func215.trans (congrArg some (by kernel_rfl))
 f271:=Tryz.func200.trans (congrArg some (by kernel_rfl))
 t0:=Tryz.underlying0
 a0:=Tryz.isAgg0
 z0:=Tryz.sizeOf0
 v0:=Tryz.zeroValue0
 t3:=Tryz.underlying3
 a3:=Tryz.isAgg3
 z3:=Tryz.sizeOf3
 v3:=Tryz.zeroValue3
 t4:=Tryz.underlying4
 a4:=Tryz.isAgg4
 z4:=Tryz.sizeOf4
 v4:=Tryz.zeroValue4
 t5:=Tryz.underlying5
 a5:=Tryz.isAgg5
 z5:=Tryz.sizeOf5
 v5:=Tryz.zeroValue5
 t9:=Tryz.underlying9
 a9:=Tryz.isAgg9
 z9:=Tryz.sizeOf9
 v9:=Tryz.zeroValue9
 t21:=Tryz.underlying21
 a21:=Tryz.isAgg21
 z21:=Tryz.sizeOf21
 v21:=Tryz.zeroValue21
 t46:=Tryz.underlying110
 a46:=Tryz.isAgg110
 z46:=Tryz.sizeOf110
 v46:=Tryz.zeroValue110
 t105:=Tryz.underlying284
 a105:=Tryz.isAgg284
 z105:=Tryz.sizeOf284
 v105:=Tryz.zeroValue284
 t116:=Tryz.underlying266
 a116:=Tryz.isAgg266
 z116:=Tryz.sizeOf266
 t117:=Tryz.underlying267
 a117:=Tryz.isAgg267
 z117:=Tryz.sizeOf267
 v117:=Tryz.zeroValue267
 t119:=Tryz.underlying292
 a119:=Tryz.isAgg292
 z119:=Tryz.sizeOf292
 t124:=Tryz.underlying270
 a124:=Tryz.isAgg270
 z124:=Tryz.sizeOf270
 v124:=Tryz.zeroValue270
 t138:=Tryz.underlying294
 a138:=Tryz.isAgg294
 z138:=Tryz.sizeOf294
 v138:=Tryz.zeroValue294
 t139:=Tryz.underlying295
 a139:=Tryz.isAgg295
 z139:=Tryz.sizeOf295
 v139:=Tryz.zeroValue295
 g3:=by kernel_rfl
 g4:=by kernel_rfl }
def Tryz.laysM171_ren:Go.Shelf.Ren:=⟨fun | 171=>124 | 243=>154 | 246=>175 | 283=>191 | 284=>192 | 285=>193 | 286=>194 | 129=>147 | 317=>201 | 318=>202 | 319=>203 | 320=>204 | 337=>208 | 338=>209 | n=>n,fun | 3=>3 | 9=>9 | 2=>2 | 4=>4 | 171=>278 | 0=>0 | 53=>208 | 37=>57 | 5=>5 | 173=>280 | 212=>289 | 51=>195 | 20=>20 | 213=>290 | 46=>110 | 232=>298 | 233=>299 | n=>n,fun | 17=>3 | 18=>7 | 19=>8 | n=>n⟩
theorem Tryz.laysM171:Go.Proofs.LaysM.n171 Tryz.prog Tryz.laysM171_ren:={
 mixed:=by kernel_rfl
 f129:=Tryz.func147.trans (congrArg some (by kernel_rfl))
 f171:=Tryz.func124.trans (congrArg some (by kernel_rfl))
 f243:=Tryz.func154.trans (congrArg some (by kernel_rfl))
 f246:=Tryz.func175.trans (congrArg some (by kernel_rfl))
 f283:=Tryz.func191.trans (congrArg some (by kernel_rfl))
 f284:=Tryz.func192.trans (congrArg some (by kernel_rfl))
 f285:=Tryz.func193.trans (congrArg some (by kernel_rfl))
 f286:=Tryz.func194.trans (congrArg some (by kernel_rfl))
 f317:=Tryz.func201.trans (congrArg some (by kernel_rfl))
 f318:=Tryz.func202.trans (congrArg some (by kernel_rfl))
 f319:=Tryz.func203.trans (congrArg some (by kernel_rfl))
 f320:=Tryz.func204.trans (congrArg some (by kernel_rfl))
 f337:=Tryz.func208.trans (congrArg some (by kernel_rfl))
 f338:=Tryz.func209.trans (congrArg some (by kernel_rfl))
 t0:=Tryz.underlying0
 a0:=Tryz.isAgg0
 z0:=Tryz.sizeOf0
 v0:=Tryz.zeroValue0
 t2:=Tryz.underlying2
 a2:=Tryz.isAgg2
 z2:=Tryz.sizeOf2
 v2:=Tryz.zeroValue2
 t3:=Tryz.underlying3
 a3:=Tryz.isAgg3
 z3:=Tryz.sizeOf3
 v3:=Tryz.zeroValue3
 t4:=Tryz.underlying4
 a4:=Tryz.isAgg4
 z4:=Tryz.sizeOf4
 v4:=Tryz.zeroValue4
 t5:=Tryz.underlying5
 a5:=Tryz.isAgg5
 z5:=Tryz.sizeOf5
 v5:=Tryz.zeroValue5
 t9:=Tryz.underlying9
 a9:=Tryz.isAgg9
 z9:=Tryz.sizeOf9
 v9:=Tryz.zeroValue9
 t20:=Tryz.underlying20
 a20:=Tryz.isAgg20
 z20:=Tryz.sizeOf20
 v20:=Tryz.zeroValue20
 t37:=Tryz.underlying57
 a37:=Tryz.isAgg57
 z37:=Tryz.sizeOf57
 v37:=Tryz.zeroValue57
 t46:=Tryz.underlying110
 a46:=Tryz.isAgg110
 z46:=Tryz.sizeOf110
 v46:=Tryz.zeroValue110
 t51:=Tryz.underlying195
 a51:=Tryz.isAgg195
 z51:=Tryz.sizeOf195
 v51:=Tryz.zeroValue195
 t53:=Tryz.underlying208
 a53:=Tryz.isAgg208
 z53:=Tryz.sizeOf208
 v53:=Tryz.zeroValue208
 t171:=Tryz.underlying278
 a171:=Tryz.isAgg278
 z171:=Tryz.sizeOf278
 v171:=Tryz.zeroValue278
 t173:=Tryz.underlying280
 a173:=Tryz.isAgg280
 z173:=Tryz.sizeOf280
 v173:=Tryz.zeroValue280
 t212:=Tryz.underlying289
 a212:=Tryz.isAgg289
 z212:=Tryz.sizeOf289
 v212:=Tryz.zeroValue289
 t213:=Tryz.underlying290
 a213:=Tryz.isAgg290
 z213:=Tryz.sizeOf290
 t232:=Tryz.underlying298
 a232:=Tryz.isAgg298
 z232:=Tryz.sizeOf298
 v232:=Tryz.zeroValue298
 t233:=Tryz.underlying299
 a233:=Tryz.isAgg299
 z233:=Tryz.sizeOf299
 v233:=Tryz.zeroValue299
 g17:=by kernel_rfl
 g18:=by kernel_rfl
 g19:=by kernel_rfl
 i0:=by kernel_rfl
 i2:=by kernel_rfl
 i3:=by kernel_rfl
 i4:=by kernel_rfl
 i5:=by kernel_rfl
 i9:=by kernel_rfl
 i20:=by kernel_rfl
 i37:=by kernel_rfl
 i46:=by kernel_rfl
 i51:=by kernel_rfl
 i53:=by kernel_rfl
 i171:=by kernel_rfl
 i173:=by kernel_rfl
 i212:=by kernel_rfl
 i232:=by kernel_rfl
 i233:=by kernel_rfl
 m17:=by kernel_rfl
 m18:=by kernel_rfl
 m19:=by kernel_rfl }
def Tryz.laysC172_ren:Go.Shelf.Ren:=⟨fun | 172=>86 | 244=>122 | 245=>123 | 247=>149 | 279=>150 | 280=>151 | 281=>152 | 282=>153 | 287=>172 | 316=>173 | 171=>124 | 205=>174 | 321=>189 | 322=>190 | 243=>154 | 246=>175 | 283=>191 | 284=>192 | 285=>193 | 286=>194 | 129=>147 | 317=>201 | 318=>202 | 319=>203 | 320=>204 | 337=>208 | 338=>209 | n=>n,fun | 9=>9 | 3=>3 | 75=>25 | 76=>34 | 4=>4 | 5=>5 | 167=>218 | 37=>57 | 0=>0 | 85=>219 | 2=>2 | 168=>221 | 53=>208 | 175=>253 | 46=>110 | 210=>257 | 127=>263 | 145=>277 | 143=>275 | 21=>21 | 171=>278 | 173=>280 | 212=>289 | 51=>195 | 20=>20 | 213=>290 | 232=>298 | 233=>299 | 80=>193 | n=>n,fun | 15=>1 | 16=>2 | 17=>3 | 18=>7 | 19=>8 | n=>n⟩
theorem Tryz.laysC172:Go.Proofs.LaysC.n172 Tryz.prog Tryz.laysC172_ren:={
 mixed:=by kernel_rfl
 f129:=Tryz.func147.trans (congrArg some (by kernel_rfl))
 f171:=Tryz.func124.trans (congrArg some (by kernel_rfl))
 f172:=Tryz.func86.trans (congrArg some (by kernel_rfl))
 f205:=Tryz.func174.trans (congrArg some (by kernel_rfl))
 f243:=Tryz.func154.trans (congrArg some (by kernel_rfl))
 f244:=Tryz.func122.trans (congrArg some (by kernel_rfl))
 f245:=Tryz.func123.trans (congrArg some (by kernel_rfl))
 f246:=Tryz.func175.trans (congrArg some (by kernel_rfl))
 f247:=Tryz.func149.trans (congrArg some (by kernel_rfl))
 f279:=Tryz.func150.trans (congrArg some (by kernel_rfl))
 f280:=Tryz.func151.trans (congrArg some (by kernel_rfl))
 f281:=Tryz.func152.trans (congrArg some (by kernel_rfl))
 f282:=Tryz.func153.trans (congrArg some (by kernel_rfl))
 f283:=Tryz.func191.trans (congrArg some (by kernel_rfl))
 f284:=Tryz.func192.trans (congrArg some (by kernel_rfl))
 f285:=Tryz.func193.trans (congrArg some (by kernel_rfl))
 f286:=Tryz.func194.trans (congrArg some (by kernel_rfl))
 f287:=Tryz.func172.trans (congrArg some (by kernel_rfl))
 f316:=Tryz.func173.trans (congrArg some (by kernel_rfl))
 f317:=Tryz.func201.trans (congrArg some (by kernel_rfl))
 f318:=Tryz.func202.trans (congrArg some (by kernel_rfl))
 f319:=Tryz.func203.trans (congrArg some (by kernel_rfl))
 f320:=Tryz.func204.trans (congrArg some (by kernel_rfl))
 f321:=Tryz.func189.trans (congrArg some (by kernel_rfl))
 f322:=Tryz.func190.trans (congrArg some (by kernel_rfl))
 f337:=Tryz.func208.trans (congrArg some (by kernel_rfl))
 f338:=Tryz.func209.trans (congrArg some (by kernel_rfl))
 t0:=Tryz.underlying0
 a0:=Tryz.isAgg0
 z0:=Tryz.sizeOf0
 v0:=Tryz.zeroValue0
 t2:=Tryz.underlying2
 a2:=Tryz.isAgg2
 z2:=Tryz.sizeOf2
 v2:=Tryz.zeroValue2
 t3:=Tryz.underlying3
 a3:=Tryz.isAgg3
 z3:=Tryz.sizeOf3
 v3:=Tryz.zeroValue3
 t4:=Tryz.underlying4
 a4:=Tryz.isAgg4
 z4:=Tryz.sizeOf4
 v4:=Tryz.zeroValue4
 t5:=Tryz.underlying5
 a5:=Tryz.isAgg5
 z5:=Tryz.sizeOf5
 v5:=Tryz.zeroValue5
 t9:=Tryz.underlying9
 a9:=Tryz.isAgg9
 z9:=Tryz.sizeOf9
 v9:=Tryz.zeroValue9
 t20:=Tryz.underlying20
 a20:=Tryz.isAgg20
 z20:=Tryz.sizeOf20
 v20:=Tryz.zeroValue20
 t21:=Tryz.underlying21
 a21:=Tryz.isAgg21
 z21:=Tryz.sizeOf21
 v21:=Tryz.zeroValue21
 t37:=Tryz.underlying57
 a37:=Tryz.isAgg57
 z37:=Tryz.sizeOf57
 v37:=Tryz.zeroValue57
 t46:=Tryz.underlying110
 a46:=Tryz.isAgg110
 z46:=Tryz.sizeOf110
 v46:=Tryz.zeroValue110
 t51:=Tryz.underlying195
 a51:=Tryz.isAgg195
 z51:=Tryz.sizeOf195
 v51:=Tryz.zeroValue195
 t53:=Tryz.underlying208
 a53:=Tryz.isAgg208
 z53:=Tryz.sizeOf208
 v53:=Tryz.zeroValue208
 t75:=Tryz.underlying25
 a75:=Tryz.isAgg25
 z75:=Tryz.sizeOf25
 v75:=Tryz.zeroValue25
 t76:=Tryz.underlying34
 a76:=Tryz.isAgg34
 z76:=Tryz.sizeOf34
 v76:=Tryz.zeroValue34
 t85:=Tryz.underlying219
 a85:=Tryz.isAgg219
 z85:=Tryz.sizeOf219
 v85:=Tryz.zeroValue219
 t127:=Tryz.underlying263
 a127:=Tryz.isAgg263
 z127:=Tryz.sizeOf263
 v127:=Tryz.zeroValue263
 t143:=Tryz.underlying275
 a143:=Tryz.isAgg275
 z143:=Tryz.sizeOf275
 v143:=Tryz.zeroValue275
 t145:=Tryz.underlying277
 a145:=Tryz.isAgg277
 z145:=Tryz.sizeOf277
 v145:=Tryz.zeroValue277
 t167:=Tryz.underlying218
 a167:=Tryz.isAgg218
 z167:=Tryz.sizeOf218
 v167:=Tryz.zeroValue218
 t168:=Tryz.underlying221
 a168:=Tryz.isAgg221
 z168:=Tryz.sizeOf221
 v168:=Tryz.zeroValue221
 t171:=Tryz.underlying278
 a171:=Tryz.isAgg278
 z171:=Tryz.sizeOf278
 v171:=Tryz.zeroValue278
 t173:=Tryz.underlying280
 a173:=Tryz.isAgg280
 z173:=Tryz.sizeOf280
 v173:=Tryz.zeroValue280
 t175:=Tryz.underlying253
 a175:=Tryz.isAgg253
 z175:=Tryz.sizeOf253
 v175:=Tryz.zeroValue253
 t210:=Tryz.underlying257
 a210:=Tryz.isAgg257
 z210:=Tryz.sizeOf257
 v210:=Tryz.zeroValue257
 t212:=Tryz.underlying289
 a212:=Tryz.isAgg289
 z212:=Tryz.sizeOf289
 v212:=Tryz.zeroValue289
 t213:=Tryz.underlying290
 a213:=Tryz.isAgg290
 z213:=Tryz.sizeOf290
 t232:=Tryz.underlying298
 a232:=Tryz.isAgg298
 z232:=Tryz.sizeOf298
 v232:=Tryz.zeroValue298
 t233:=Tryz.underlying299
 a233:=Tryz.isAgg299
 z233:=Tryz.sizeOf299
 v233:=Tryz.zeroValue299
 g15:=by kernel_rfl
 g16:=by kernel_rfl
 g17:=by kernel_rfl
 g18:=by kernel_rfl
 g19:=by kernel_rfl
 t80:=Tryz.underlying193
 a80:=Tryz.isAgg193
 z80:=Tryz.sizeOf193
 v80:=Tryz.zeroValue193
 i0:=by kernel_rfl
 i2:=by kernel_rfl
 i3:=by kernel_rfl
 i4:=by kernel_rfl
 i5:=by kernel_rfl
 i9:=by kernel_rfl
 i20:=by kernel_rfl
 i21:=by kernel_rfl
 i37:=by kernel_rfl
 i46:=by kernel_rfl
 i51:=by kernel_rfl
 i53:=by kernel_rfl
 i75:=by kernel_rfl
 i76:=by kernel_rfl
 i80:=by kernel_rfl
 i85:=by kernel_rfl
 i127:=by kernel_rfl
 i143:=by kernel_rfl
 i145:=by kernel_rfl
 i167:=by kernel_rfl
 i168:=by kernel_rfl
 i171:=by kernel_rfl
 i173:=by kernel_rfl
 i175:=by kernel_rfl
 i210:=by kernel_rfl
 i212:=by kernel_rfl
 i232:=by kernel_rfl
 i233:=by kernel_rfl
 m15:=by kernel_rfl
 m16:=by kernel_rfl
 m17:=by kernel_rfl
 m18:=by kernel_rfl
 m19:=by kernel_rfl
 c0:=by kernel_rfl
 c2:=by kernel_rfl
 c3:=by kernel_rfl
 c4:=by kernel_rfl
 c5:=by kernel_rfl
 c9:=by kernel_rfl
 c20:=by kernel_rfl
 c21:=by kernel_rfl
 c37:=by kernel_rfl
 c46:=by kernel_rfl
 c51:=by kernel_rfl
 c53:=by kernel_rfl
 c75:=by kernel_rfl
 c76:=by kernel_rfl
 c80:=by kernel_rfl
 c85:=by kernel_rfl
 c127:=by kernel_rfl
 c143:=by kernel_rfl
 c145:=by kernel_rfl
 c167:=by kernel_rfl
 c168:=by kernel_rfl
 c171:=by kernel_rfl
 c173:=by kernel_rfl
 c175:=by kernel_rfl
 c210:=by kernel_rfl
 c212:=by kernel_rfl
 c213:=by kernel_rfl
 c232:=by kernel_rfl
 c233:=by kernel_rfl }
def Tryz.sortS_ren:Go.Shelf.Ren:=⟨fun | 6=>83 | 8=>119 | 9=>118 | 19=>146 | 20=>147 | 21=>137 | 22=>138 | 23=>139 | 24=>140 | 25=>141 | 26=>142 | 27=>143 | 28=>144 | 29=>145 | 36=>166 | 31=>167 | 32=>168 | 37=>169 | 38=>170 | 39=>171 | 41=>188 | n=>n,fun | 27=>100 | 29=>9 | 3=>3 | 32=>110 | 26=>100 | 0=>0 | 44=>195 | 46=>208 | 4=>4 | 36=>211 | 35=>210 | 41=>81 | 5=>5 | 9=>9 | 53=>247 | 57=>251 | 63=>272 | 64=>229 | n=>n,fun | n=>n⟩
theorem Tryz.sortS:Go.Proofs.SlLaysM.n6 Tryz.prog Tryz.sortS_ren:={
 mixed:=by kernel_rfl
 f6:=⟨Tryz.f83.name,by decide,Tryz.func83.trans (congrArg some (by kernel_rfl))⟩
 f8:=Tryz.func119.trans (congrArg some (by kernel_rfl))
 f9:=⟨Tryz.f118.name,by decide,Tryz.func118.trans (congrArg some (by kernel_rfl))⟩
 f19:=Tryz.func146.trans (congrArg some (by kernel_rfl))
 f20:=Tryz.func147.trans (congrArg some (by kernel_rfl))
 f21:=⟨Tryz.f137.name,by decide,Tryz.func137.trans (congrArg some (by kernel_rfl))⟩
 f22:=⟨Tryz.f138.name,by decide,Tryz.func138.trans (congrArg some (by kernel_rfl))⟩
 f23:=⟨Tryz.f139.name,by decide,Tryz.func139.trans (congrArg some (by kernel_rfl))⟩
 f24:=⟨Tryz.f140.name,by decide,Tryz.func140.trans (congrArg some (by kernel_rfl))⟩
 f25:=⟨Tryz.f141.name,by decide,Tryz.func141.trans (congrArg some (by kernel_rfl))⟩
 f26:=⟨Tryz.f142.name,by decide,Tryz.func142.trans (congrArg some (by kernel_rfl))⟩
 f27:=⟨Tryz.f143.name,by decide,Tryz.func143.trans (congrArg some (by kernel_rfl))⟩
 f28:=⟨Tryz.f144.name,by decide,Tryz.func144.trans (congrArg some (by kernel_rfl))⟩
 f29:=⟨Tryz.f145.name,by decide,Tryz.func145.trans (congrArg some (by kernel_rfl))⟩
 f31:=Tryz.func167.trans (congrArg some (by kernel_rfl))
 f32:=Tryz.func168.trans (congrArg some (by kernel_rfl))
 f36:=⟨Tryz.f166.name,by decide,Tryz.func166.trans (congrArg some (by kernel_rfl))⟩
 f37:=⟨Tryz.f169.name,by decide,Tryz.func169.trans (congrArg some (by kernel_rfl))⟩
 f38:=⟨Tryz.f170.name,by decide,Tryz.func170.trans (congrArg some (by kernel_rfl))⟩
 f39:=⟨Tryz.f171.name,by decide,Tryz.func171.trans (congrArg some (by kernel_rfl))⟩
 f41:=⟨Tryz.f188.name,by decide,Tryz.func188.trans (congrArg some (by kernel_rfl))⟩
 t0:=Tryz.underlying0
 a0:=Tryz.isAgg0
 z0:=Tryz.sizeOf0
 v0:=Tryz.zeroValue0
 t3:=Tryz.underlying3
 a3:=Tryz.isAgg3
 z3:=Tryz.sizeOf3
 v3:=Tryz.zeroValue3
 t4:=Tryz.underlying4
 a4:=Tryz.isAgg4
 z4:=Tryz.sizeOf4
 v4:=Tryz.zeroValue4
 t5:=Tryz.underlying5
 a5:=Tryz.isAgg5
 z5:=Tryz.sizeOf5
 v5:=Tryz.zeroValue5
 t9:=Tryz.underlying9
 a9:=Tryz.isAgg9
 z9:=Tryz.sizeOf9
 v9:=Tryz.zeroValue9
 t26:=Tryz.underlying100
 a26:=Tryz.isAgg100
 z26:=Tryz.sizeOf100
 v26:=Tryz.zeroValue100
 t27:=Tryz.underlying100
 a27:=Tryz.isAgg100
 z27:=Tryz.sizeOf100
 v27:=Tryz.zeroValue100
 t29:=Tryz.underlying9
 a29:=Tryz.isAgg9
 z29:=Tryz.sizeOf9
 v29:=Tryz.zeroValue9
 t32:=Tryz.underlying110
 a32:=Tryz.isAgg110
 z32:=Tryz.sizeOf110
 v32:=Tryz.zeroValue110
 t35:=Tryz.underlying210
 a35:=Tryz.isAgg210
 z35:=Tryz.sizeOf210
 v35:=Tryz.zeroValue210
 t36:=Tryz.underlying211
 a36:=Tryz.isAgg211
 z36:=Tryz.sizeOf211
 v36:=Tryz.zeroValue211
 t41:=Tryz.underlying81
 a41:=Tryz.isAgg81
 z41:=Tryz.sizeOf81
 v41:=Tryz.zeroValue81
 t44:=Tryz.underlying195
 a44:=Tryz.isAgg195
 z44:=Tryz.sizeOf195
 v44:=Tryz.zeroValue195
 t46:=Tryz.underlying208
 a46:=Tryz.isAgg208
 z46:=Tryz.sizeOf208
 v46:=Tryz.zeroValue208
 t53:=Tryz.underlying247
 a53:=Tryz.isAgg247
 z53:=Tryz.sizeOf247
 v53:=Tryz.zeroValue247
 t57:=Tryz.underlying251
 a57:=Tryz.isAgg251
 z57:=Tryz.sizeOf251
 v57:=Tryz.zeroValue251
 t63:=Tryz.underlying272
 a63:=Tryz.isAgg272
 z63:=Tryz.sizeOf272
 v63:=Tryz.zeroValue272
 t64:=Tryz.underlying229
 a64:=Tryz.isAgg229
 z64:=Tryz.sizeOf229
 v64:=Tryz.zeroValue229 }
end Go.Proofs
