/-
  A region that draws its order, in a round of a range over a function; a range over strings.Lines. (Of the topics' seat.)
-/
import Derived.Test.YtobegmcbfgnpnaaGreatDoorU04
import Derived.Test.YtobegmcbfgnpnaaGreatDoorU08
import Derived.RangeFuncFrom
import Derived.RangeFuncCalls
set_option linter.unusedVariables false
set_option linter.unusedSimpArgs false
set_option maxHeartbeats 0
set_option maxRecDepth 200000
namespace Go.Proofs.YtobegmcbfgnpnaaGreatDoor.Ch
section
variable {P:Program} {Q:Exit→Act→World→Prop} {l n:Nat}
theorem callsIn_round {f:FuncId}{args:Array Value}{w:World}{R:Ending→World→Prop}(h:Calls P f args w R):CallsIn (Fence.wide.inRound l) n P f args w R:=CallsIn.inRound l (callsIn_wide.2 h)
theorem rowsIn_round {row:String}{args:Array Value}{w:World}{R:Value→World→Prop}(h:Rows P row args w R):RowsIn (Fence.wide.inRound l) n P row args w R:=fun c cs _=>by
 obtain⟨v,w',r,s⟩:=h c cs
 exact⟨v,w',r,stepsIn_wide.2 s⟩
theorem upon_round {o:Oper}{a:Act}{next:Act→World→Prop}{r:Result Next}(h:o.upon P a next Q r):o.uponIn (Fence.wide.inRound l) n P a next Q r:=by
 cases r with
 | ok x w'=>
  cases x<;>simp only[Oper.upon,Oper.uponIn] at h ⊢
  case value=>exact h
  case skip=>exact h
  case defer=>exact h
  case enter f args=>exact⟨(fun h=>by cases h),callsIn_round (h.mono fun e w'' he=>by cases e<;>exact he)⟩
  case row row args=>exact⟨(fun h=>by cases h),rowsIn_round h⟩
 | halt x w'=>cases x<;>simp only[Oper.upon,Oper.uponIn] at h ⊢ <;> exact h
def noDefer (ops:Array Oper):Prop:=∀ (i:Nat) (o:Oper),ops[i]? = some o→∀ c,o.op≠.defer c
theorem wpAny_round {ops:Array Oper}{md:Region.Mode}(hp:noDefer ops)(hq:¬LetsOut Q):∀ (fuel:Nat) (listed:Array Bool) (a:Act) (w:World),wpAny P md ops Q fuel listed a w→wpAnyIn (Fence.wide.inRound l) n P md ops Q fuel listed a w
 | 0,_,_,_,h=>h
 | fuel+1,listed,a,w,h=>by
  refine⟨h.1,fun i hi=>?_⟩
  have h2:=h.2 i hi
  unfold wpOp at h2;unfold wpOpIn;split
  ·next hn=>
   simp only[hn] at h2
   exact wpAny_round hp hq fuel _ _ _ h2
  ·next o ho=>
   simp only[ho] at h2
   split
   ·next hw=>
    simp only[hw,if_true] at h2
    rcases h2 with h2 | ⟨_,h2⟩
    ·refine⟨fun _ _=>trivial,?_⟩
     rw[Oper.semAt_eq _ _ _ (hp i o ho)]
     exact upon_round (Oper.wp_mono (fun a w h=>wpAny_round hp hq fuel _ a w h) h2)
    ·exact absurd h2 hq
   ·next hw=>
    simp only[hw] at h2
    exact⟨fun _ _=>trivial,wpAny_round hp hq fuel _ _ _ h2⟩
def noDeferB (ops:Array Oper):Bool:=ops.all fun o=>match o.op with | .defer _=>false | _=>true
theorem noDefer_of {ops:Array Oper}(h:noDeferB ops=true):noDefer ops:=fun i o ho c hc=>by
 unfold noDeferB at h;rw[Array.all_eq_true_iff_forall_mem] at h;have h1:=h o (Array.mem_of_getElem? ho)
 rw[hc] at h1;cases h1
theorem wpIn_region_chain {id:Nat}{a0:Act}{w0:World} (ops:List Oper)(hq:¬LetsOut Q)(hnd:noDeferB ops.toArray=true) (R:World→World→Prop) (C:List Nat) (F:List Value→World→Prop)(hm:P.follows .mixedOrders=true)(hrefl:∀ a,R a a)(htr:∀ a b c,R a b→R b c→R a c) (D:List (List Nat)) {k:Nat}(hn:a0.tmps.size=k)
  (hok:okB ops.toArray k D=true)(hch:chainB ops.toArray C=true)(hr0:R w0 { w0 with drawn:=w0.drawn+1 })(hF:F [] { w0 with drawn:=w0.drawn+1 })
  (h:Walk P ops.toArray R C F w0 Q a0 D ops []):(Code.region id ops.toArray true).wpIn (Fence.wide.inRound l) n P Q a0 w0:=by
 subst hn;have hok:=Ok.of hok
 have hC:=Chained.of hch
 obtain⟨specs,hE⟩:=each_of_walk hok ops D [] (by simp) (by simp) (by simp) (by simp) (by simp) (by simp) h
 refine wpIn_region_any hm (wpAny_round (noDefer_of hnd) hq _ _ _ _ ?_)
 have hnone:∀ k,k<ops.toArray.size→(Array.replicate ops.toArray.size false).getD k true=false:=by
  intro k hk;have hkl:k<ops.length:=by simpa using hk
  simp[Array.getD_eq_getD_getElem?,hkl]
 refine any_of_each hrefl htr hok hC hE _ _ _ _ ⟨by simp,hr0,rfl,rfl,?_,fun _ _=>rfl,?_,0,Nat.zero_le _,?_,by simpa using hF⟩ ?_ ?_
 ·intro k u hk hl;rw[hnone k (lt_size hk)] at hl
  cases hl
 ·intro k u d s hk hl;rw[hnone k (lt_size hk)] at hl
  cases hl
 ·intro m c hm;rw[hnone c (hC.lt c (List.mem_of_getElem? hm))]
  simp
 ·intro i hi _ hz;rw[hz] at hi;exact absurd hi (Nat.not_lt_zero _)
 ·rw[Array.toList_replicate];exact Nat.le_trans (List.length_filter_le _ _) (by simp)
end
end Go.Proofs.YtobegmcbfgnpnaaGreatDoor.Ch
namespace Go.Proofs.YtobegmcbfgnpnaaGreatDoor
open Go.RowKit Go.Lib Go.Shelf
attribute [local go_sem] Oper.semAt_some
theorem ba_list (s:ByteArray):(⟨s.data.toList.toArray⟩:ByteArray)=s:=by cases s;rfl
theorem lindex_any (s:ByteArray) (w:World):Calls Tryz.prog 112 #[.string s,.int .u8 10] w fun e w'=>e = .returned (.int .i64 (indexByte s.data.toList 10))∧w=w':=by
 have h:=Any.strings_IndexByte Tryz.lays137 s 10 w
 exact h.mono fun e w' ⟨h1,h2⟩=>⟨h1,h2.symm⟩
theorem lines1_in (n:Nat) (hn:1≤n) (l Bm:Nat) (T:ByteArray) (hT:T.size≤1000000) (J:List (List UInt8)→World→Prop) (Jx:World→Prop)
  (hY:∀ pre (x:ByteArray) W,(pre++[x.data.toList]) <+: yieldsOf T.data.toList→J pre W→YieldAt Fence.wide (n-1) Tryz.prog l #[.string x] W fun e W'=>(e = .returned (.bool true)∧J (pre++[x.data.toList]) W'∧W'.heap[Bm]? = W.heap[Bm]?)∨(e = .returned (.bool false)∧Jx W'))
  (hJ:∀ pre W W',J pre W→Chg (fun k=>k=Bm) W W'→J pre W') (W:World) (hb:Box W Bm [.string T] 9) (h0:J [] W) :
  CallsIn Fence.wide n Tryz.prog 181 #[.func (.yield l) #[] #[],.pointer (some ⟨Bm,0,none⟩)] W fun e W'=>(∃ v,e = .returned v)∧(J (yieldsOf T.data.toList) W'∨Jx W'):=by
 have HY:=Lib.hid hY
 have HJ:=Lib.hid hJ
 have HT:=Lib.hid hT
 clear hY hJ hT;refine callsIn_of_wp Tryz.func181 rfl trivial ?_ rfl
 simp only[Tryz.ntmps181,List.size_toArray,List.length_cons,List.length_nil,Nat.reduceAdd,Nat.reduceSub,Array.replicate_succ,Array.replicate_zero,List.push_toArray,List.append_toArray,List.nil_append,List.cons_append]
 gi_wp2
 gi_loopw [3,4] (fun _ _ wr=>∃ (wq:World) (pre:List (List UInt8)) (s:ByteArray),wq=wr∧Hid (pre++yieldsOf s.data.toList=yieldsOf T.data.toList)∧Hid (s.size≤1000000)∧Hid (Box wr Bm [.string s] 9)∧Hid (J pre wr)) (fun _ _ wr=>match wr.cell? ⟨Bm,0,none⟩ with | some (.string s)=>s.size | _=>0)
 case atStart=>exact⟨_,[],T,rfl,rfl,HT.out,hb,h0⟩
 case round=>
  obtain⟨wr,pre,s,rfl,HP,HS,HB,HJ1⟩:=hrel
  have c0:=HB.out.cell (j:=0) rfl
  by_cases hs0:s.size=0
  ·have hz:¬(0:Int)<(s.size:Int):=by omega
   have he:s.data.toList=[]:=by rw[←List.length_eq_zero_iff,←size_eq];exact hs0
   have HE:Hid (J (yieldsOf T.data.toList) wr):=by
    have h1:=HP.out
    rw[he,yieldsOf_nil,List.append_nil] at h1;rw[←h1];exact HJ1.out
   clear he hs0;gi_wp2
   go_end0
   exact⟨⟨_,rfl⟩,.inl HE.out⟩
  ·have hz:(0:Int)<(s.size:Int):=by omega
   have hne:s.data.toList≠[]:=fun h=>hs0 (by rw[size_eq,h];rfl)
   have hsl:s.size≤1000000:=HS.out
   have HIX:=Lib.hid (lindex_any s wr)
   have hfi:Fence.wide.fn 112:=trivial
   rcases indexByte_at s.data.toList 10 with ⟨h1,_⟩ | ⟨i,h1,h2,_,_⟩
   ·have HYL:=Lib.hid (yieldsOf_miss (l:=s.data.toList) (by omega) hne)
    rw[h1] at HIX;clear hne hs0;have fz:=HB.out.free 0
    gi_wp2_with (gi_at_call 112;refine (callsIn_wide.2 HIX.out).mono ?_;rintro e w' ⟨rfl,rfl⟩)
    have HPN:Hid ((pre++[s.data.toList])++yieldsOf (⟨#[]⟩:ByteArray).data.toList=yieldsOf T.data.toList):=by
     show (pre++[s.data.toList])++[]=_
     rw[←HP.out,HYL.out,List.append_nil]
    have HPX:Hid ((pre++[s.data.toList]) <+: yieldsOf T.data.toList):=⟨_,HPN.out⟩
    have HSN:Hid ((⟨#[]⟩:ByteArray).size≤1000000):=Nat.zero_le _
    have HMS:Hid ((⟨#[]⟩:ByteArray).size<s.size):=by show 0<s.size;omega
    have hsc:Chg (fun k=>k=Bm) wr (wr.setCell ⟨Bm,0,none⟩ (.string ⟨#[]⟩)):=(Chg.refl (fun k=>k=Bm) wr).setCell (.inl rfl) _
    have HJ9:=Lib.hid (HJ.out pre wr _ HJ1.out hsc)
    have HB9:=Lib.hid (HB.out.set 0 (.string ⟨#[]⟩))
    clear hsc fz h1 hz;generalize wr.setCell ⟨Bm,0,none⟩ (.string ⟨#[]⟩)=w9 at *
    have hB9:Box w9 Bm [.string ⟨#[]⟩] 9:=HB9.out
    have hJ9:J pre w9:=HJ9.out
    obtain⟨fn,tmps,assign,body,hy,hR⟩:=HY.out pre s w9 HPX.out hJ9
    gi_wp2
    refine hR.mono ?_
    rintro e W3 (⟨rfl,hJ3,hk3⟩ | ⟨rfl,hJx3⟩)
    ·have hb3:Box W3 Bm [.string ⟨#[]⟩] 9:=Eq.trans hk3 hB9
     have HB3:=Lib.hid hb3
     have HJ3:=Lib.hid hJ3
     have HC0:=Lib.hid c0
     clear hk3 hb3 hJ3 hB9 hJ9 hy hR c0;gi_wp2
     go_roundw
     case rel=>exact⟨_,pre++[s.data.toList],⟨#[]⟩,rfl,HPN,HSN,HB3,HJ3⟩
     case measure=>
      have e1:W3.cell? ⟨Bm,0,none⟩=some (.string ⟨#[]⟩):=HB3.out.cell (j:=0) rfl
      rw[e1,HC0.out];exact HMS.out
    ·have HJX:=Lib.hid hJx3
     clear hJx3 hJ9 hB9 hy hR c0;gi_wp2
     refine bodyPost_ret (results_none rfl _ _ _) rfl ?_
     exact⟨⟨_,rfl⟩,.inr HJX.out⟩
   ·have HYL:=Lib.hid (yieldsOf_hit (l:=s.data.toList) (i:=i) h1)
    have hil:(i:Int)+1≤(s.size:Int):=by rw[size_eq];omega
    have hi0:(0:Int)≤(i:Int)+1:=by omega
    rw[h1] at HIX;clear hne hs0 h2;gi_wp2_with (gi_at_call 112;refine (callsIn_wide.2 HIX.out).mono ?_;rintro e w' ⟨rfl,rfl⟩)
    refine wpIn_wide.2 ?_
    refine Ch.wp_region_tail _ 9 (Chg (Nil)) [] (fun _ _=>True) (by kernel_rfl) (fun _=>Chg.refl _ _) (fun _ _ _ h k=>h.trans k (fun _ h=>.inl h)) [[],[],[1],[0,2],[],[],[5],[4,6],[3],[7]] rfl (by kernel_rfl) (by kernel_rfl) (by kernel_rfl) (Chg.refl _ _).drew ?_ ?_
    ·trivial
    simp only[List.take_succ_cons,List.take_zero,List.drop_succ_cons,List.drop_zero,List.length_cons,List.length_nil,Nat.reduceAdd]
    ((with_reducible apply Ch.Walk.eq);(case hd=>rfl);(case hi=>rfl);case h=>(intro w2 hw2 N hN;(have hq:=hw2.cell c0 (fun h=>h));simp only[Ch.depB];go_simp;(try go_bits);with_reducible exact hN _ (Chg.refl _ _) (fun _ h=>h)))
    iterate 3 ((with_reducible apply Ch.Walk.eq);(case hd=>rfl);(case hi=>rfl);case h=>(intro w2 hw2 N hN;simp only[Ch.depB];go_simp;(try go_bits);with_reducible exact hN _ (Chg.refl _ _) (fun _ h=>h)))
    ((with_reducible apply Ch.Walk.eq);(case hd=>rfl);(case hi=>rfl);case h=>(intro w2 hw2 N hN;(have hq:=hw2.cell c0 (fun h=>h));simp only[Ch.depB];go_simp;(try go_bits);with_reducible exact hN _ (Chg.refl _ _) (fun _ h=>h)))
    iterate 4 ((with_reducible apply Ch.Walk.eq);(case hd=>rfl);(case hi=>rfl);case h=>(intro w2 hw2 N hN;simp only[Ch.depB];go_simp;(try go_bits);with_reducible exact hN _ (Chg.refl _ _) (fun _ h=>h)))
    intro w6 hw6;simp only[List.nil_append,List.cons_append,Ch.Fin,List.map_cons,List.map_nil,List.getD_cons_zero,List.getD_cons_succ]
    intro _;have HB6:=Lib.hid (HB.out.chg hw6 (fun h=>h))
    have c6:=HB6.out.cell (j:=0) rfl
    have f6:=HB6.out.free 0
    have HJ6:=Lib.hid (HJ.out pre wr w6 HJ1.out (hw6.weak fun _ h=>h.elim))
    clear hw6;have HPN:Hid ((pre++[(s.extract 0 (i+1)).data.toList])++yieldsOf (s.extract (i+1) s.size).data.toList=yieldsOf T.data.toList):=by
     rw[←HP.out,HYL.out.2,extract_from_zero,extract_to_end,List.append_assoc];rfl
    have HMS:Hid ((s.extract (i+1) s.size).size<s.size):=by
     show (s.extract (i+1) s.size).size<s.size
     rw[size_eq,extract_to_end,List.length_drop,←size_eq];omega
    have HSN:Hid ((s.extract (i+1) s.size).size≤1000000):=by
     have h1:=HMS.out
     show (s.extract (i+1) s.size).size≤1000000
     omega
    have hsc:Chg (fun k=>k=Bm) w6 (w6.setCell ⟨Bm,0,none⟩ (.string (s.extract (i+1) s.size))):=(Chg.refl (fun k=>k=Bm) w6).setCell (.inl rfl) _
    have HJ9:=Lib.hid (HJ.out pre w6 _ HJ6.out hsc)
    have HB9:=Lib.hid (HB6.out.set 0 (.string (s.extract (i+1) s.size)))
    clear hsc;simp only[Ch.thens_cons,Ch.thens_nil,Oper.wp]
    go_simp;clear c6 f6 hil hi0;generalize w6.setCell ⟨Bm,0,none⟩ (.string (s.extract (i+1) s.size))=w9 at *
    obtain⟨s1,hs1⟩:∃ s1,s.extract 0 (i+1)=s1:=⟨_,rfl⟩
    obtain⟨s2,hs2⟩:∃ s2,s.extract (i+1) s.size=s2:=⟨_,rfl⟩
    rw[hs1,hs2] at HPN;have HPX:Hid ((pre++[s1.data.toList]) <+: yieldsOf T.data.toList):=⟨_,HPN.out⟩
    rw[hs2] at HMS HSN HB9
    rw[hs1,hs2];clear hs1 hs2;have hB9:Box w9 Bm [.string s2] 9:=HB9.out
    have hJ9:J pre w9:=HJ9.out
    obtain⟨fn,tmps,assign,body,hy,hR⟩:=HY.out pre s1 w9 HPX.out hJ9
    gi_wp2
    refine hR.mono ?_
    rintro e W3 (⟨rfl,hJ3,hk3⟩ | ⟨rfl,hJx3⟩)
    ·have hb3:Box W3 Bm [.string s2] 9:=Eq.trans hk3 hB9
     have HB3:=Lib.hid hb3
     have HJ3:=Lib.hid hJ3
     have HC0:=Lib.hid c0
     clear hk3 hb3 hJ3 hB9 hJ9 hy hR c0;gi_wp2
     go_roundw
     case rel=>exact⟨_,pre++[s1.data.toList],s2,rfl,HPN,HSN,HB3,HJ3⟩
     case measure=>
      have e1:W3.cell? ⟨Bm,0,none⟩=some (.string s2):=HB3.out.cell (j:=0) rfl
      rw[e1,HC0.out];exact HMS.out
    ·have HJX:=Lib.hid hJx3
     clear hJx3 hJ9 hB9 hy hR c0;gi_wp2
     refine bodyPost_ret (results_none rfl _ _ _) rfl ?_
     exact⟨⟨_,rfl⟩,.inr HJX.out⟩
theorem chg_putObj (W:World) (l:Nat) (o:Obj):Chg (fun k=>k=l) W (W.putObj l o):=
 ⟨rfl,rfl,rfl,by simp[World.putObj],fun k _ hn=>World.putObj_heap_other (fun e=>hn e)⟩
def Keep3 (D Bm:Nat) (W W':World):Prop:=W.heap.size≤W'.heap.size∧∀ k,(k=Bm∨k=D∨k=D+1)→W'.heap[k]? = W.heap[k]?
def roundPost (D Bm:Nat) (I:List (List UInt8)→World→Prop) (Ix:World→Prop) (xs:List (List UInt8)) (W:World):Exit→Act→World→Prop
 | .normal,_,W'=>Keep3 D Bm W W'∧I xs W'
 | .ret,_,W'=>Keep3 D Bm W W'∧Ix W'
 | _,_,_=>False
def loopRec (fn:FuncId) (tmps:Array Value) (ps:Array Tmp) (assign body:Code) (D:Nat) (st:LoopState) (pe:Option Code):Loop:={ state:=st,pending:=pe,fn,tmps,params:=ps,assign,body,defers:=D }
theorem wpIn_range_lines {g:Operand}{ps:Array Tmp}{assign body:Code}{Q:Exit→Act→World→Prop}{a:Act}{w:World}{n:Nat}(hn:3≤n) {Bm:Nat}{T:ByteArray}(hT:T.size≤1000000)
  (hg:a.eval g = .func (.func 181) #[] #[.pointer (some ⟨Bm,0,none⟩)])(hb:Box w Bm [.string T] 9)(hps:ps.size=1)
  (I:List (List UInt8)→World→Prop) (Ix:World→Prop)
  (hI:∀ pre W W',I pre W→Chg (fun k=>k=Bm∨k=w.heap.size∨k=w.heap.size+1) W W'→I pre W')
  (hIx:∀ W W',Ix W→Chg (fun k=>k=Bm∨k=w.heap.size∨k=w.heap.size+1) W W'→Ix W')
  (h0:I [] w) (a₁:ByteArray→Act)
  (hassign:∀ (l:Nat) (x:ByteArray) (W:World) (K:Act→World→Prop),K (a₁ x) W→
   assign.wpIn (Fence.wide.inRound l) (n-1-1) Tryz.prog (Exit.then K (fun _ _ _=>False)) { tmps:=(ps.zip #[.string x]).foldl (fun t (p,v)=>t.setIfInBounds p v) a.tmps,defers:=[] } W)
  (hbody:∀ (l:Nat) (pre:List (List UInt8)) (x:ByteArray) (W:World),(pre++[x.data.toList]) <+: yieldsOf T.data.toList→I pre W→w.heap.size+2≤W.heap.size→body.wpIn (Fence.wide.inRound l) (n-1-1) Tryz.prog (roundPost w.heap.size Bm I Ix (pre++[x.data.toList]) W) (a₁ x) W)
  (hdone:∀ W,I (yieldsOf T.data.toList) W→W.heap[w.heap.size]? = some (.deferred (some []))→Q .normal { a with defers:={ target:=.collected w.heap.size,args:=#[] }::a.defers } W)
  (hstop:∀ W,Ix W→W.heap[w.heap.size]? = some (.deferred (some []))→Code.ret.wpIn Fence.wide n Tryz.prog Q { a with defers:={ target:=.collected w.heap.size,args:=#[] }::a.defers } W) :
  (Code.rangeFunc g ps assign body).wpIn Fence.wide n Tryz.prog Q a w:=by
 have hBl:Bm<w.heap.size:=(Array.getElem?_eq_some_iff.1 hb).1
 refine wpIn_rangeFunc ?_
 intro fn hfn;obtain⟨D,hD⟩:∃ D,w.heap.size=D:=⟨_,rfl⟩
 rw[hD] at hI hIx hbody hdone hstop hBl
 obtain⟨W1,hW1⟩:∃ W1,(w.alloc (.deferred (some []))).alloc (.loop (loopRec fn a.tmps ps assign body D .ready none))=W1:=⟨_,rfl⟩
 have hs1:W1.heap.size=D+2:=by rw[←hW1];simp[hD]
 have hal:Chg Nil w W1:=by rw[←hW1];exact ((Chg.refl Nil w).alloc _).alloc _
 have hL1:W1.heap[D+1]? = some (.loop (loopRec fn a.tmps ps assign body D .ready none)):=by
  rw[←hW1];have h:=World.alloc_heap_new (w.alloc (.deferred (some []))) (.loop (loopRec fn a.tmps ps assign body D .ready none))
  rw[World.size_alloc,hD] at h;exact h
 have hK1:W1.heap[D]? = some (.deferred (some [])):=by
  rw[←hW1,←hD];exact (Below.heap_alloc _ _ _ (by simp)).trans (World.alloc_heap_new w _)
 have hb1:Box W1 Bm [.string T] 9:=hb.chg hal (fun h=>h)
 refine⟨D+1,[{ target:=.collected D,args:=#[] }],W1,{ target:=.fn (.func 181) #[.pointer (some ⟨Bm,0,none⟩)],args:=#[.func (.yield (D+1)) #[] #[]] },W1,181,
  #[.func (.yield (D+1)) #[] #[],.pointer (some ⟨Bm,0,none⟩)],W1,?_,?_,?_,?_,(fun h=>by simp[Fence.wide] at h),?_⟩
 ·rw[←hW1,←hD];exact run_enterLoop_outer fn a.tmps ps assign body
 ·simp only[resolve,hg]
  simp[go_sem]
 ·intro f' hf';trivial
 ·simp[invoke,go_sem]
 refine (lines1_in (n-1) (by omega) (D+1) Bm T hT
  (fun pre W=>I pre W∧W.heap[D+1]? = some (.loop (loopRec fn a.tmps ps assign body D .ready none))∧W.heap[D]? = some (.deferred (some [])))
  (fun W=>Ix W∧W.heap[D+1]? = some (.loop (loopRec fn a.tmps ps assign body D .done (some .ret)))∧W.heap[D]? = some (.deferred (some [])))
  ?_ ?_ W1 hb1 ⟨hI [] w W1 h0 (hal.weak fun _ h=>h.elim),hL1,hK1⟩).mono ?_
 ·rintro pre x W hpx ⟨hi,hl,hk⟩
  have hlt:D+1<W.heap.size:=(Array.getElem?_eq_some_iff.1 hl).1
  have hy:=run_yield (P:=Tryz.prog) (args:=#[Value.string x]) hl hps.symm
  obtain⟨W2,hW2⟩:∃ W2,W.putObj (D+1) (.loop { loopRec fn a.tmps ps assign body D .ready none with state:=.busy })=W2:=⟨_,rfl⟩
  have hc2:Chg (fun k=>k=D+1) W W2:=by rw[←hW2];exact chg_putObj _ _ _
  refine⟨fn,_,assign,body,hy,roundIn_of_wpIn hfn (hassign _ x W _ ⟨W2,by rw[←hW2];exact run_beginRound hl rfl,?_⟩)⟩
  have hl2:W2.heap[D+1]? = some (.loop { loopRec fn a.tmps ps assign body D .ready none with state:=.busy }):=by rw[←hW2];exact World.putObj_heap_same hlt
  have hk2:W2.heap[D]? = some (.deferred (some [])):=by rw[←hW2];exact (World.putObj_heap_other (by omega)).trans hk
  have hB2:W2.heap[Bm]? = W.heap[Bm]?:=by rw[←hW2];exact World.putObj_heap_other (by omega)
  refine wpIn_mono (hbody (D+1) pre x W2 hpx (hI pre W W2 hi (hc2.weak fun k hk=>.inl (.inr (.inr hk)))) (by have:=hc2.size;omega)) ?_
  rintro e a3 W3 hp
  have fin:∀ (jump:Option Code),Keep3 D Bm W2 W3→
    (Instr.endRound (D+1) jump).run Tryz.prog W3 = .ok (.bool jump.isNone) (W3.putObj (D+1) (.loop (loopRec fn a.tmps ps assign body D (if jump.isNone then .ready else .done) jump)))∧
    (W3.putObj (D+1) (.loop (loopRec fn a.tmps ps assign body D (if jump.isNone then .ready else .done) jump))).heap[D+1]? = some (.loop (loopRec fn a.tmps ps assign body D (if jump.isNone then .ready else .done) jump))∧
    (W3.putObj (D+1) (.loop (loopRec fn a.tmps ps assign body D (if jump.isNone then .ready else .done) jump))).heap[D]? = some (.deferred (some []))∧
    (W3.putObj (D+1) (.loop (loopRec fn a.tmps ps assign body D (if jump.isNone then .ready else .done) jump))).heap[Bm]? = W.heap[Bm]?:=fun jump hk3=>by
   have hl3:=(hk3.2 (D+1) (.inr (.inr rfl))).trans hl2
   refine⟨run_endRound (P:=Tryz.prog) jump hl3,World.putObj_heap_same (Array.getElem?_eq_some_iff.1 hl3).1,(World.putObj_heap_other (by omega)).trans ((hk3.2 D (.inr (.inl rfl))).trans hk2),(World.putObj_heap_other (by omega)).trans ((hk3.2 Bm (.inl rfl)).trans hB2)⟩
  cases e with
  | normal=>
   obtain⟨hk3,hi3⟩:=hp
   obtain⟨hr,hl4,hk4,hb4⟩:=fin none hk3
   exact⟨_,_,hr,.inl ⟨rfl,⟨hI _ _ _ hi3 ((chg_putObj _ _ _).weak fun k hk=>.inl (.inr (.inr hk))),hl4,hk4⟩,hb4⟩⟩
  | ret=>
   obtain⟨hk3,hi3⟩:=hp
   obtain⟨hr,hl4,hk4,hb4⟩:=fin (some .ret) hk3
   exact⟨_,_,hr,.inr ⟨rfl,hIx _ _ hi3 ((chg_putObj _ _ _).weak fun k hk=>.inl (.inr (.inr hk))),hl4,hk4⟩⟩
  | exit id=>exact hp.elim
  | goto t=>exact hp.elim
  | panic ch=>exact hp.elim
  | outgrown=>exact hp.elim
 ·rintro pre W W' ⟨hi,hl,hk⟩ hc
  have hlt:D+1<W.heap.size:=(Array.getElem?_eq_some_iff.1 hl).1
  exact⟨hI pre W W' hi (hc.weak fun k hk=>.inl (.inl hk)),(hc.block _ hlt (by omega)).trans hl,(hc.block _ (by omega) (by omega)).trans hk⟩
 ·rintro e W2 ⟨⟨v,rfl⟩,⟨hi,hl,hk⟩ | ⟨hi,hl,hk⟩⟩
  ·exact⟨none,_,run_endLoop (P:=Tryz.prog) hl (fun h=>by cases h),hdone _ (hI _ _ _ hi ((chg_putObj _ _ _).weak fun k hk=>.inl (.inr (.inr hk)))) ((World.putObj_heap_other (by omega)).trans hk)⟩
  ·exact⟨some .ret,_,run_endLoop (P:=Tryz.prog) hl (fun h=>by cases h),hstop _ (hIx _ _ hi ((chg_putObj _ _ _).weak fun k hk=>.inl (.inr (.inr hk)))) ((World.putObj_heap_other (by omega)).trans hk)⟩
end Go.Proofs.YtobegmcbfgnpnaaGreatDoor
