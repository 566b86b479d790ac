/-
  The names that begin so, in order: slices.Sort; a range over maps.Keys.
-/
import Derived.Test.YtobegmcbfgnpnaaGreatDoorU22
import Derived.Sort.OwnSorted
import Derived.Maps.OwnIn
set_option linter.unusedVariables false
set_option linter.unusedSimpArgs false
set_option maxHeartbeats 0
set_option maxRecDepth 200000
namespace Go.Proofs.YtobegmcbfgnpnaaGreatDoor
open Go.RowKit Go.Maps Go.Sort Go.Shelf
attribute [local go_sem] Oper.semAt_some
def OwnS (B:Nat) (w:World) (v:Value) (l:List Nm):Prop:=w.ownsRow B 9 1 v l.length (l.map encStr)
theorem sortN_len (l:List Nm):(sortN l).length=l.length:=(List.mergeSort_perm l _).length_eq
theorem sortS_any {B:Nat}{w:World}{v:Value}{l:List Nm}(h:OwnS B w v l)(hl:l.length≤1000000) :
  Calls Tryz.prog 86 #[v] w fun e w'=>e = .returned (.tuple #[])∧OwnS B w' v (sortN l)∧w.grownBy w' v.ownBlock:=by
 rcases h.2 with ⟨rfl,hn⟩ | ⟨g,cap,cur,rfl,hbg,hg,hnc,hcm,hcs,htake⟩
 ·have hnil:l=[]:=List.eq_nil_of_length_eq_zero hn
  subst hnil;refine (AnyM.slices_Sort_string_none Tryz.sortS none 0 w).mono ?_
  rintro e w' ⟨rfl,rfl⟩
  have e0:sortN []=[]:=by simp[sortN]
  rw[e0];exact⟨rfl,h,rfl,rfl,rfl,Nat.le_refl _,fun _ _ _=>rfl⟩
 ·have hglt:g<w.heap.size:=(Array.getElem?_eq_some_iff.1 hg).1
  rw[Nat.mul_one] at htake;have hH:=holds_of_block hg htake
  refine (AnyM.slices_Sort_string Tryz.sortS g 0 cap l w hH hglt (by omega)).mono ?_
  rintro e w' ⟨rfl,n,os,rfl⟩
  refine⟨rfl,?_,grownBy_sorted _⟩
  have:=ownsRow_sorted (w:=w) (base:=B) (g:=g) (cap:=cap) (n:=n) (e:=9) (os:=os) (cur:=cur) (ss:=l) (ts:=sortN l) (sortN_len l) hbg hg hnc hcm hcs
  unfold OwnS;rw[sortN_len];exact this
theorem strInfo:(Tryz.prog.info? 9).map (fun i=>(i.zero,i.size,i.bytes))=some (some (.string ⟨#[]⟩),1,16):=by kernel_rfl
theorem own_row {w:World}{B:Nat}{v:Value}{l:List Nm}(h:OwnS B w v l) {k:Nat}(hk:v.ownBlock=some k):∃ cur,w.heap[k]? = some (.cells cur 9 (0,0)):=by
 rcases h.2 with ⟨rfl,_⟩ | ⟨g,cap,cur,rfl,_,hg,_⟩
 ·cases hk
 ·obtain rfl:g=k:=Option.some.inj hk
  exact⟨cur,hg⟩
theorem sortN_perm {a b:List Nm}(h:a.Perm b):sortN a=sortN b:=by
 have tr:∀ x y z:Nm,decide (x≤y)=true→decide (y≤z)=true→decide (x≤z)=true:=fun x y z h1 h2=>decide_eq_true (List.le_trans (of_decide_eq_true h1) (of_decide_eq_true h2))
 have tt:∀ x y:Nm,(decide (x≤y)||decide (y≤x))=true:=fun x y=>by
  rcases List.le_total x y with h | h
  ·rw[decide_eq_true h];rfl
  ·rw[decide_eq_true h,Bool.or_true]
 have s1:=List.pairwise_mergeSort tr tt a
 have s2:=List.pairwise_mergeSort tr tt b
 have hp:(sortN a).Perm (sortN b):=(List.mergeSort_perm a _).trans (h.trans (List.mergeSort_perm b _).symm)
 exact hp.eq_of_pairwise (fun x y _ _ h1 h2=>List.le_antisymm (of_decide_eq_true h1) (of_decide_eq_true h2)) s1 s2
def begins (b:Nm) (l:List Nm):List Nm:=l.filter fun x=>b.isPrefixOf x
theorem list_in {w:World} {p mb:Nat} {fs:List (Nm×Nat)} {sv:Nat→Value} {con:Nat→Fl} {room:Nat} {left:Int} (h:Dm w p mb fs sv con room left) (hfn:fs.length≤200) (bg:ByteArray) :
  CallsIn Fence.wide 6 Tryz.prog 28 #[.pointer (some ⟨p,0,none⟩),.string bg] w fun e w'=>∃ v,e = .returned v∧OwnS w.heap.size w' v (sortN (begins bg.data.toList (fs.map (·.1))))∧Below w.heap.size w w':=by
 have hal1:=(Chg.refl Nil w).alloc (.cells #[.string bg] 9)
 have hal2:=hal1.alloc (.cells #[.slice none 0 0] 47)
 have c0:=hal2.cell (h.c.cell (j:=0) rfl) (fun h=>h)
 have hal3:=hal2.alloc (.cells #[.map (some mb)] 105)
 have hD0:=h.chg hal3 (fun _ _ h=>h)
 have hb1:Boxed (w.alloc (.cells #[.string bg] 9)) w.heap.size 9 (.string bg):=Boxed.new w _ _
 have hb2:Boxed ((w.alloc (.cells #[.string bg] 9)).alloc (.cells #[.slice none 0 0] 47)) (w.heap.size+1) 47 (.slice none 0 0):=by
  have:=Boxed.new (w.alloc (.cells #[.string bg] 9)) 47 (.slice none 0 0)
  rwa [World.size_alloc] at this
 have hb3:Boxed (((w.alloc (.cells #[.string bg] 9)).alloc (.cells #[.slice none 0 0] 47)).alloc (.cells #[.map (some mb)] 105)) (w.heap.size+2) 105 (.map (some mb)):=by
  have:=Boxed.new ((w.alloc (.cells #[.string bg] 9)).alloc (.cells #[.slice none 0 0] 47)) 105 (.map (some mb))
  rwa [World.size_alloc,World.size_alloc] at this
 have hb1:=(hb1.alloc (.cells #[.slice none 0 0] 47)).alloc (.cells #[.map (some mb)] 105)
 have hb2:=hb2.alloc (.cells #[.map (some mb)] 105)
 have hs3:(((w.alloc (.cells #[.string bg] 9)).alloc (.cells #[.slice none 0 0] 47)).alloc (.cells #[.map (some mb)] 105)).heap.size=w.heap.size+3:=by simp
 have hBW:Below w.heap.size w (((w.alloc (.cells #[.string bg] 9)).alloc (.cells #[.slice none 0 0] 47)).alloc (.cells #[.map (some mb)] 105)):=hal3.below (fun _ _ h=>h)
 refine callsIn_of_wp_marks Tryz.func28 rfl trivial ?_ rfl
 simp only[Tryz.ntmps28,List.size_toArray,List.length_cons,List.length_nil,Nat.reduceAdd,Nat.reduceSub,Array.replicate_succ,Array.replicate_zero,List.push_toArray,List.append_toArray,List.nil_append,List.cons_append]
 have hfv:Fence.wide.fn 84:=trivial
 gi_wp2_with (gi_at_call 84;refine (mkeys_in Fence.wide _ trivial rfl _ _).mono ?_;rintro e w' ⟨rfl,rfl⟩)
 generalize ((w.alloc (.cells #[.string bg] 9)).alloc (.cells #[.slice none 0 0] 47)).alloc (.cells #[.map (some mb)] 105)=W0 at *;obtain⟨i0,hi,hz0,hz1,hz2⟩:=info_parts strInfo
 have HD0:=Lib.hid hD0
 have HNI:Hid (∀ pre:List {x:Nm // x∈fs.map (·.1)},pre.length<fs.length→(begins bg.data.toList (pre.map (·.1))).length≤200):=fun pre hp=>by
  have:=List.length_filter_le (fun x=>bg.data.toList.isPrefixOf x) (pre.map (·.1))
  rw[List.length_map] at this;exact Nat.le_trans this (by omega)
 clear h hal1 hal2 hal3 c0;refine wpIn_rangeFunc_ownF (α:={x:Nm // x∈fs.map (·.1)}) rfl (by omega) (gf:=142) (lb:=#[.pointer (some ⟨w.heap.size+2,0,none⟩)]) rfl trivial (enters_of Tryz.func142 (by kernel_rfl) rfl)
  (keys_stops Fence.wide _ trivial rfl (by omega) (w.heap.size+2) mb fs W0 (by omega) hb3.cell hD0.m) walksK_t walksK_b (Below.refl _ _) (fun _=>rfl)
  (fun pre W=>((∃ v,Boxed W (w.heap.size+1) 47 v∧W.ownsRow w.heap.size 9 1 v (begins bg.data.toList (pre.map (·.1))).length ((begins bg.data.toList (pre.map (·.1))).map encStr)∧(∀ k,v.ownBlock=some k→w.heap.size+3≤k))∧Boxed W w.heap.size 9 (.string bg))∧Below w.heap.size w W)
  (fun _ _ _=>False)
  (OwnFrom.and (OwnFrom.and (_root_.Go.Own.from (holdsRow_own w.heap.size _ _ _ 1 (fun pre:List {x:Nm // x∈fs.map (·.1)}=>(begins bg.data.toList (pre.map (·.1))).length) (fun pre=>(begins bg.data.toList (pre.map (·.1))).map encStr) (fun _ v=>∀ k,v.ownBlock=some k→w.heap.size+3≤k)) _) (_root_.Go.Own.from (boxed_own _ _ _) _)) (ownFrom_below (Nat.le_refl _) (by omega)))
  (fun _ _ _ _ _ hs _ _=>hs)
  ⟨⟨⟨_,hb2,World.ownsRow_nil _ _ _ _,fun k hk=>(by cases hk)⟩,hb1⟩,hBW⟩
  (fun x=>{ tmps:=#[.pointer (some ⟨p,0,none⟩),.string bg,undef,.pointer (some ⟨w.heap.size,0,none⟩),.slice none 0 0,.pointer (some ⟨w.heap.size+1,0,none⟩),encStr x.1,.pointer (some ⟨p,0,none⟩),.pointer (some ⟨p,0,none⟩),.pointer (some ⟨p,0,none⟩),.map (some mb),.func (.func 142) #[] #[.pointer (some ⟨w.heap.size+1+1,0,none⟩)],encStr x.1,undef,undef,undef,undef,undef,undef,undef,undef,undef,undef],defers:=[] }) ?assign ?body ?done ?stop
 case assign=>
  intro l x W K hK;gi_wp2
  exact hK
 case body=>
  rintro l pre ⟨x,hx⟩ W ⟨⟨⟨v,hbox,hrow,hvn⟩,hbb⟩,hB⟩ hlen
  have hle:=HNI.out pre hlen
  have hsn:begins bg.data.toList ((pre++[(⟨x,hx⟩:{x:Nm // x∈fs.map (·.1)})]).map (·.1))=begins bg.data.toList (pre.map (·.1))++(if bg.data.toList.isPrefixOf x=true then [x] else []):=by
   rw[List.map_append];simp only[begins,List.filter_append,List.map_cons,List.map_nil]
   congr 1
   by_cases hp:bg.data.toList.isPrefixOf x=true
   ·simp[hp]
   ·simp[hp]
  have HSN:=Lib.hid hsn
  generalize begins bg.data.toList (pre.map (·.1))=ys at *;have hpc:=hbb.cell
  have hv:=hbox
  have hvc:=hv.cell
  have hvf:=hv.frozen
  have hrowa:=hrow.alloc (.cells #[encStr x] 9)
  have hHP:=fun W=>Any.strings_HasPrefix Tryz.lays99 ⟨x.toArray⟩ bg W
  clear hsn;have hle9:w.heap.size≤w.heap.size+1:=Nat.le_succ _
  by_cases hp:bg.data.toList.isPrefixOf x=true
  ·have hpp:Lib.hasPrefix x bg.data.toList=true:=hp
   have HSN2:=HSN.out
   rw[if_pos hp] at HSN2
   have HSN3:=Lib.hid HSN2
   clear HSN HSN2 hp;gi_wp2_with (first
    | (refine⟨trivial,?_⟩;gi_at_call 85;refine (CallsIn.inRound l (callsIn_wide.2 (hHP _))).mono ?_;rintro e w' ⟨rfl,rfl⟩)
    | (gi_at_builtin;go_must (refine wpListIn_append_own_at _ rfl _ _ 47 rfl w.heap.size 9 i0 (.string ⟨#[]⟩) 1 16 Tryz.underlying47 hi hz0 hz1 hz2 rfl (by decide) _ _ _ rfl hrowa ⟨_,0,none⟩ 1 1 [encStr x] rfl rfl (cell_one_new _ _ _) (by simp[Value.oneCell',encStr]) (by unfold maxLen;omega) (by omega) (by have:=hB.size;simp;omega) ?_);intro v' w1 hown' hgrow _ hnw;obtain⟨g',cap',rfl⟩:=ownsRow_succ hown';obtain⟨hv1,hv2,hr2,hk2,hb2⟩:=hv.appended (by decide) hrow hB.size hle9 hown' hgrow;have hc1:=hv1.cell;have hf1:=hv1.frozen))
   have hbb2:Boxed (w1.setCell ⟨w.heap.size+1,0,none⟩ (.slice (some ⟨g',0,none⟩) (ys.length+1) cap')) w.heap.size 9 (.string bg):=((hbb.alloc _).kept hgrow (fun e=>by have:=hvn _ e.symm;omega)).other (by omega) _
   have hsz2:=hbox.lt
   refine⟨hk2,hk2.walks,⟨⟨_,hv2,?_,fun k hk=>?_⟩,hbb2⟩,hB.trans hb2⟩
   ·rw[HSN3.out,List.length_append,List.map_append];exact hr2
   ·rcases hnw with g | g
    ·rw[hk] at g;exact hvn k g.symm
    ·rw[hk,World.size_alloc] at g;have:=Option.some.inj g
     omega
  ·have hpp:Lib.hasPrefix x bg.data.toList=false:=by
    cases h:Lib.hasPrefix x bg.data.toList with
    | false=>rfl
    | true=>exact absurd h hp
   have HSN2:=HSN.out
   rw[if_neg hp,List.append_nil] at HSN2
   have HSN3:=Lib.hid HSN2
   clear HSN HSN2 hp;gi_wp2_with (refine⟨trivial,?_⟩;gi_at_call 85;refine (CallsIn.inRound l (callsIn_wide.2 (hHP _))).mono ?_;rintro e w' ⟨rfl,rfl⟩)
   refine⟨KeepsOthers.refl _,(KeepsOthers.refl _).walks,⟨⟨v,hbox,?_,hvn⟩,hbb⟩,hB⟩
   rw[HSN3.out];exact hrow
 case done=>
  rintro D xs W hD hS ⟨⟨⟨v,hbox,hrow,hvn⟩,hbb⟩,hB⟩ hK
  have hvc:=hbox.cell
  have hys:begins bg.data.toList (xs.map (·.1)) |>.Perm (begins bg.data.toList (fs.map (·.1))):=hS.filter _
  have hlen9:(begins bg.data.toList (xs.map (·.1))).length≤200:=by
   rw[hys.length_eq];refine Nat.le_trans (List.length_filter_le _ _) ?_
   rw[List.length_map];exact hfn
  obtain⟨ys,hy9⟩:∃ ys,begins bg.data.toList (xs.map (·.1))=ys:=⟨_,rfl⟩
  rw[hy9] at hys hrow hlen9
  have hown:OwnS w.heap.size W v ys:=hrow
  have HSORT:=Lib.hid (sortS_any hown (by omega))
  have hnr:some (w.heap.size+1)≠v.ownBlock:=hbox.not_row (by decide) hrow
  have hnD:some D≠v.ownBlock:=fun e=>by
   obtain⟨cur,hcur⟩:=own_row hown e.symm
   rw[hK] at hcur;cases hcur
  have hfin:∀ w2:World,OwnS w.heap.size w2 v (sortN ys)→w2.heap[D]? = some (.deferred (some []))→OwnS w.heap.size (w2.putObj D (.deferred none)) v (sortN (begins bg.data.toList (fs.map (·.1)))):=fun w2 h2 hk2=>by
   rw[←sortN_perm hys]
   exact ownsRow_putObj h2 _ hk2 rfl
  gi_wp2_with (refine⟨trivial,?_⟩;gi_at_call 86;refine (callsIn_wide.2 HSORT.out).mono ?_;rintro e w2 ⟨rfl,hrow2,hgr⟩;have hbox2:=hbox.kept hgr hnr;have hvc2:=hbox2.cell)
  refine⟨by simp,.inl ⟨_,_,rfl,run_takeDeferred ((hgr.block D (by have:=(Array.getElem?_eq_some_iff.1 hK).1;exact this) hnD).trans hK),?_⟩⟩
  have hK2:w2.heap[D]? = some (.deferred (some [])):=(hgr.block D (Array.getElem?_eq_some_iff.1 hK).1 hnD).trans hK
  have hBw2:Below w.heap.size w w2:=hB.grown hgr hB.size (fun k hk=>by have:=hvn k hk;omega)
  exact⟨_,results_tmp rfl _ _ _,v,rfl,hfin _ hrow2 hK2,hBw2.trans (belowK_b (w:=w) (Nat.le_refl _) w2 D _ _ (by omega) hK2 rfl rfl)⟩
 case stop=>
  rintro D c pre W _ _ h _
  exact h.elim
theorem list_any {w:World}{p mb:Nat}{fs:List (Nm×Nat)}{sv:Nat→Value}{con:Nat→Fl}{room:Nat}{left:Int}(h:Dm w p mb fs sv con room left)(hfn:fs.length≤200) (bg:ByteArray) :
  Calls Tryz.prog 28 #[.pointer (some ⟨p,0,none⟩),.string bg] w fun e w'=>∃ v,e = .returned v∧OwnS w.heap.size w' v (sortN (begins bg.data.toList (fs.map (·.1))))∧Chg Nil w w':=
 (callsIn_wide.1 (list_in h hfn bg)).mono fun e w' ⟨v,h1,h2,h3⟩=>⟨v,h1,h2,Chg.of_below h3 _⟩
end Go.Proofs.YtobegmcbfgnpnaaGreatDoor
