/-
  The disk's map of files in memory: names to blocks; and the disk itself.
-/
import Derived.Test.YtdjmifaidgbbaaaGreatDoorT06
import Derived.RangeFuncMany
import Derived.Sort.MapsRangeIn
import Derived.Sort.KeysCollected
import Derived.LoopNIn
import Derived.LoopIn
set_option linter.unusedVariables false
set_option linter.unusedSimpArgs false
set_option maxHeartbeats 0
set_option maxRecDepth 200000
namespace Go.Proofs.YtdjmifaidgbbaaaGreatDoor
open Go.RowKit Go.Maps
abbrev DU:=DataW Unit
theorem keyedS:Keyed Tryz.prog 9:=string_keyed Tryz.underlying9
theorem zeroPtr (w:World):(zeroValue 139).run Tryz.prog w = .ok (.pointer none) w:=by kernel_rfl
def ptrElem:Value→Option (DU×List MemPlace)
 | .pointer none=>some (.nil,[])
 | .pointer (some ⟨b,0,none⟩)=>some (.lit (.int .i64 b),[])
 | _=>none
def ptrOf (o:Option Nat):Value:=.pointer (o.map fun b=>⟨b,0,none⟩)
def datOf:Option Nat→DU
 | none=>.nil
 | some b=>.lit (.int .i64 b)
theorem ptrElem_of (o:Option Nat):ptrElem (ptrOf o)=some (datOf o,[]):=by cases o<;>rfl
theorem ptrElem_inv {v:Value}{o:Option Nat}{ps:List MemPlace}(h:ptrElem v=some (datOf o,ps)):v=ptrOf o:=by
 unfold ptrElem at h;split at h
 ·cases o with
  | none=>rfl
  | some b=>simp[datOf] at h
 ·rename_i b
  cases o with
  | none=>simp[datOf] at h
  | some b'=>
   simp only[datOf,Option.some.injEq,Prod.mk.injEq,DataW.lit.injEq,Lit.int.injEq,true_and] at h
   have:b=b':=by omega
   rw[this];rfl
 ·cases h
theorem lookup_filter {α:Type} (x y:Nm):∀ fs:List (Nm×α),(fs.filter fun p=>decide (p.1≠x)).lookup y=if y=x then none else fs.lookup y
 | []=>by simp
 | (a,b)::r=>by
  have ih:=lookup_filter x y r
  by_cases hax:a=x
  ·subst hax;rw[List.filter_cons_of_neg (by simp),ih]
   by_cases hy:y=a
   ·simp[hy]
   ·have:(y==a)=false:=beq_eq_false_iff_ne.2 hy
    simp[hy,List.lookup_cons,this]
  ·rw[List.filter_cons_of_pos (by simpa using hax),List.lookup_cons,List.lookup_cons,ih]
   by_cases hya:y=a
   ·subst hya;simp[hax]
   ·have:(y==a)=false:=beq_eq_false_iff_ne.2 hya
    simp[this]
theorem lookup_put {α:Type} (x y:Nm) (b:α) (fs:List (Nm×α)):((fs.filter fun p=>decide (p.1≠x))++[(x,b)]).lookup y=if y=x then some b else fs.lookup y:=by
 rw[List.lookup_append,lookup_filter];by_cases h:y=x
 ·subst h;simp
 ·have:(y==x)=false:=beq_eq_false_iff_ne.2 h
  simp[h,List.lookup_cons,this]
theorem lookup_some {α:Type}{x:Nm}{b:α}:∀ {fs:List (Nm×α)},fs.lookup x=some b→(x,b)∈fs
 | (a,c)::r,h=>by
  rw[List.lookup_cons] at h;by_cases hxa:x=a
  ·subst hxa;simp at h
   subst h;simp
  ·have:(x==a)=false:=beq_eq_false_iff_ne.2 hxa
   simp only[this,Bool.false_eq_true,if_false] at h
   exact List.mem_cons_of_mem _ (lookup_some h)
theorem lookup_none {α:Type}{x:Nm}:∀ {fs:List (Nm×α)},fs.lookup x=none↔x ∉ fs.map (·.1)
 | []=>by simp
 | (a,c)::r=>by
  rw[List.lookup_cons];by_cases hxa:x=a
  ·subst hxa;simp
  ·have:(x==a)=false:=beq_eq_false_iff_ne.2 hxa
   simp only[this,Bool.false_eq_true,if_false,List.map_cons,List.mem_cons,not_or]
   rw[lookup_none (fs:=r)]
   simp[hxa]
theorem lookup_mem {α:Type}{x:Nm}{b:α}:∀ {fs:List (Nm×α)},(fs.map (·.1)).Nodup→(x,b)∈fs→fs.lookup x=some b
 | (a,c)::r,hn,h=>by
  rw[List.map_cons,List.nodup_cons] at hn;rw[List.lookup_cons];rcases List.mem_cons.1 h with h | h
  ·cases h;simp
  ·have hxa:x≠a:=fun e=>hn.1 (by rw[←e];exact List.mem_map_of_mem (f:=(·.1)) h)
   have:(x==a)=false:=beq_eq_false_iff_ne.2 hxa
   simp only[this,Bool.false_eq_true,if_false]
   exact lookup_mem hn.2 h
theorem filter_fst_nodup {α:Type}{fs:List (Nm×α)}(h:(fs.map (·.1)).Nodup) (x:Nm):((fs.filter fun p=>decide (p.1≠x)).map (·.1)).Nodup:=
 h.sublist (List.Sublist.map _ List.filter_sublist)
theorem put_fst_nodup {α:Type}{fs:List (Nm×α)}(h:(fs.map (·.1)).Nodup) (x:Nm) (b:α):(((fs.filter fun p=>decide (p.1≠x))++[(x,b)]).map (·.1)).Nodup:=by
 rw[List.map_append];refine List.nodup_append.2 ⟨filter_fst_nodup h x,by simp,fun y hy z hz e=>?_⟩
 simp at hz
 obtain⟨q,hq,rfl⟩:=List.mem_map.1 hy
 have:=(List.mem_filter.1 hq).2
 simp at this
 exact this (by rw[e,hz])
theorem filter_length {α:Type} (x:Nm):∀ {fs:List (Nm×α)},(fs.map (·.1)).Nodup→(fs.filter fun p=>decide (p.1≠x)).length+(if (fs.lookup x).isSome=true then 1 else 0)=fs.length
 | [],_=>by simp
 | (a,c)::r,hn=>by
  rw[List.map_cons,List.nodup_cons] at hn;have ih:=filter_length x hn.2
  by_cases hxa:a=x
  ·subst hxa;rw[List.filter_cons_of_neg (by simp),List.lookup_cons]
   have h0:r.lookup a=none:=lookup_none.2 hn.1
   rw[h0] at ih;simp at ih ⊢
   exact ih
  ·rw[List.filter_cons_of_pos (by simpa using hxa),List.lookup_cons]
   have:(x==a)=false:=beq_eq_false_iff_ne.2 (fun e=>hxa e.symm)
   simp only[this,Bool.false_eq_true,if_false,List.length_cons]
   omega
def MapAt (w:World) (mb:Nat) (fs:List (Nm×Nat)):Prop:=
 (fs.map (·.1)).Nodup∧∃ D:DU,w.ownsMap Tryz.prog 9 ptrElem mb fs.length D∧Maps.size D=fs.length∧
  ∀ x:Nm,D.atKey (.string x) .nil=datOf (fs.lookup x)∧Maps.has D (.string x)=(fs.lookup x).isSome
theorem ownsMap_grown {S:Nat→Prop}{w w':World}{P:Program}{k:TypeId}{R:Value→Option (DU×List MemPlace)}{b n:Nat}{D:DU}(h:w.ownsMap P k R b n D)(hc:Chg S w w')(hn:¬S b):w'.ownsMap P k R b n D:=by
 have hlt:=h.lt
 obtain⟨es,clock,hb,F,hs,hD⟩:=h
 exact⟨es,clock,(hc.block b hlt hn).trans hb,F,hs,hD⟩
theorem MapAt.chg {S:Nat→Prop}{w w':World}{mb:Nat}{fs:List (Nm×Nat)}(h:MapAt w mb fs)(hc:Chg S w w')(hn:¬S mb):MapAt w' mb fs:=by
 obtain⟨hnd,D,ho,rest⟩:=h
 exact⟨hnd,D,ownsMap_grown ho hc hn,rest⟩
theorem MapAt.lt {w:World}{mb:Nat}{fs:List (Nm×Nat)}(h:MapAt w mb fs):mb<w.heap.size:=by
 obtain⟨_,D,ho,_⟩:=h
 exact ho.lt
theorem MapAt.ne_row {w:World}{mb:Nat}{fs:List (Nm×Nat)}(h:MapAt w mb fs) {g:Nat}{cs:Array Value}{e:TypeId}{fr:Nat×Nat}(hg:w.heap[g]? = some (.cells cs e fr)):mb≠g:=by
 obtain⟨_,D,ho,_⟩:=h
 intro e1;subst e1;obtain⟨es,clock,hb,_⟩:=ho
 rw[hg] at hb;cases hb
theorem mapTurned_chg {w w':World}{b:Nat}(h:w.mapTurned w' b):Chg (fun i=>i=b) w w':=by
 have g:=h.grown
 exact⟨g.os,g.tape,g.output,g.size,fun k hk hn=>g.block k hk (fun e=>hn (Option.some.inj e))⟩
theorem ownsMap_tight {w:World}{P:Program}{k:TypeId}{R:Value→Option (DU×List MemPlace)}{b n:Nat}{D:DU}(h:w.ownsMap P k R b n D):w.ownsMap P k R b (Maps.size D) D:=by
 obtain⟨es,clock,hb,F,hs,rfl⟩:=h
 exact⟨es,clock,hb,F,by simp[Maps.size,length_sorted],rfl⟩
theorem key_str {s:ByteArray}(hs:s.size≤maxLen):keyOf Tryz.prog 9 (.string s)=some (.string s.data.toList):=WideMaps.keyOf_string_mk Tryz.underlying9 hs
theorem lit_ne {x y:Nm}(h:x≠y):(Lit.string x)≠.string y:=fun e=>h (by cases e;rfl)
theorem keyLit (x:Nm):WideAt.IsKeyLit (.string x):=trivial
theorem MapAt.made (w:World):MapAt (w.alloc (.map #[] 0)) w.heap.size []:=
 ⟨List.nodup_nil,_,World.ownsMap_made _ _ _ _,rfl,fun _=>⟨rfl,rfl⟩⟩
theorem MapAt.look {w:World}{mb:Nat}{fs:List (Nm×Nat)}(h:MapAt w mb fs) {s:ByteArray}(hs:s.size≤maxLen) :
  (Instr.lookup 94 (.map (some mb)) (.string s) false).run Tryz.prog w = .ok (ptrOf (fs.lookup s.data.toList)) w:=by
 obtain⟨_,D,ho,_,hD⟩:=h
 obtain⟨v,ps,hrun,hv⟩:=ho.lookup keyedS (t:=94) (e:=139) Tryz.underlying94 (zeroPtr w) (zd:=.nil) (zp:=[]) rfl (key_str hs)
 rw[(hD s.data.toList).1] at hv
 rw[hrun,ptrElem_inv hv]
theorem MapAt.len {w:World}{mb:Nat}{fs:List (Nm×Nat)}(h:MapAt w mb fs) (ty:TypeId):(Builtin.len_ #[94] ty #[.map (some mb)]).run Tryz.prog w = .ok (.int .i64 (fs.length:Nat)) w:=by
 obtain⟨_,D,ho,hs,_⟩:=h
 rw[←hs];exact ho.len Tryz.underlying94 ty
theorem MapAt.store {w:World}{mb:Nat}{fs:List (Nm×Nat)}(h:MapAt w mb fs)(hn:fs.length<maxLen) {s:ByteArray}(hs:s.size≤maxLen) (b:Nat) :
  ∃ w',(Instr.mapUpdate 94 (.map (some mb)) (.string s) (.pointer (some ⟨b,0,none⟩))).run Tryz.prog w = .ok () w'∧
   MapAt w' mb ((fs.filter fun p=>decide (p.1≠s.data.toList))++[(s.data.toList,b)])∧Chg (fun i=>i=mb) w w':=by
 obtain⟨hnd,D,ho,hsz,hD⟩:=h
 obtain⟨w',hrun,r1,r2⟩:=ho.store keyedS (t:=94) (e:=139) Tryz.underlying94 hn (key_str hs) (ptrElem_of (some b))
 have hT:=ho.tidy keyedS
 have hsz2:Maps.size (D.put (.string s.data.toList) (datOf (some b)))=((fs.filter fun p=>decide (p.1≠s.data.toList))++[(s.data.toList,b)]).length:=by
  rw[size_put hT,(hD _).2,List.length_append,List.length_singleton]
  have:=filter_length s.data.toList hnd
  split at this
  ·rename_i h;rw[if_pos h];omega
  ·rename_i h;rw[if_neg h];omega
 refine⟨w',hrun,⟨put_fst_nodup hnd _ _,_,?_,hsz2,fun y=>?_⟩,mapTurned_chg r2⟩
 ·rw[←hsz2];exact ownsMap_tight r1
 ·rw[lookup_put];by_cases e:y=s.data.toList
  ·subst e;rw[atKey_put_same hT.isMap (keyLit _),has_put_same hT.isMap (keyLit _)]
   simp
  ·rw[atKey_put_other (lit_ne e),has_put_other (lit_ne e),(hD y).1,(hD y).2]
   simp[e]
theorem MapAt.drop {w:World}{mb:Nat}{fs:List (Nm×Nat)}(h:MapAt w mb fs) {s:ByteArray}(hs:s.size≤maxLen) (ty:TypeId) :
  ∃ w',(Builtin.delete_ #[94,9] ty #[.map (some mb),.string s]).run Tryz.prog w = .ok (.tuple #[]) w'∧
   MapAt w' mb (fs.filter fun p=>decide (p.1≠s.data.toList))∧Chg (fun i=>i=mb) w w':=by
 obtain⟨hnd,D,ho,hsz,hD⟩:=h
 obtain⟨w',hrun,r1,r2⟩:=ho.drop keyedS (t:=94) (e:=139) Tryz.underlying94 (key_str hs) ty
 have hT:=ho.tidy keyedS
 have hsz2:Maps.size (D.del (.string s.data.toList))=(fs.filter fun p=>decide (p.1≠s.data.toList)).length:=by
  have h1:=size_del (k:=.string s.data.toList) hT
  rw[(hD _).2] at h1
  have:=filter_length s.data.toList hnd
  omega
 refine⟨w',hrun,⟨filter_fst_nodup hnd _,_,?_,hsz2,fun y=>?_⟩,mapTurned_chg r2⟩
 ·rw[←hsz2];exact ownsMap_tight r1
 ·rw[lookup_filter];by_cases e:y=s.data.toList
  ·subst e;rw[atKey_del_same,has_del_same];simp[datOf]
  ·rw[atKey_del_other (lit_ne e),has_del_other (lit_ne e),(hD y).1,(hD y).2]
   simp[e]
open Go.Sort
theorem datOf_inj {a b:Option Nat}(h:datOf a=datOf b):a=b:=by
 cases a<;>cases b<;>simp[datOf] at h
 ·rfl
 ·rename_i a b
  have:a=b:=by omega
  rw[this]
theorem pairs_perm {ps fs:List (Nm×Nat)}(hp:(ps.map (·.1)).Nodup)(hf:(fs.map (·.1)).Nodup)(hv:∀ p∈ps,fs.lookup p.1=some p.2)(hall:∀ x,x∈ps.map (·.1)↔(fs.lookup x).isSome=true):ps.Perm fs:=by
 have nd:∀ l:List (Nm×Nat),(l.map (·.1)).Nodup→l.Nodup:=fun l h=>List.Pairwise.of_map _ (fun a b hab e=>hab (by rw[e])) h
 refine (List.perm_ext_iff_of_nodup (nd _ hp) (nd _ hf)).2 fun q=>⟨fun h=>lookup_some (hv q h),fun h=>?_⟩
 have h1:=lookup_mem hf h
 have h2:q.1∈ps.map (·.1):=(hall q.1).2 (by rw[h1];rfl)
 obtain⟨r,hr,he⟩:=List.mem_map.1 h2
 have h3:=hv r hr
 rw[he,h1] at h3;have:r=q:=by
  cases r;cases q
  simp at he h3
  rw[he,h3]
 rw[←this];exact hr
def encP (b:Nat):Value:=ptrOf (some b)
theorem values1_in (F:Fence) (n:Nat) (h8:F.fn 187) (hro:F.round=none) (hn:1≤n) (l Bm b:Nat) (fs:List (Nm×Nat)) (J Jx:List Nat→World→Prop)
  (hY:∀ pre x W,x∈fs.map (·.2)→J pre W→pre.length<fs.length→YieldAt F (n-1) Tryz.prog l #[encP x] W fun e W'=>
   (e = .returned (.bool true)∧J (pre++[x]) W'∧KeepsWalks W W')∨(e = .returned (.bool false)∧Jx (pre++[x]) W'))
  (W:World) (hJ:AbidesFrom W.heap.size J) (hm:W.cell? ⟨Bm,0,none⟩=some (.map (some b))) (hmap:MapAt W b fs) (h0:J [] W) :
  CallsIn F n Tryz.prog 187 #[.func (.yield l) #[] #[],.pointer (some ⟨Bm,0,none⟩)] W fun e W'=>(∃ v,e = .returned v)∧
   ((∃ xs,xs.Perm (fs.map (·.2))∧J xs W')∨(∃ pre,True∧Jx pre W')):=by
 obtain⟨hnd,D0,hown,hsz,hD⟩:=hmap
 refine callsIn_of_wp Tryz.func187 rfl h8 ?_ hro
 simp only[Tryz.ntmps187,List.size_toArray,List.length_cons,List.length_nil,Nat.reduceAdd,Nat.reduceSub,Array.replicate_succ,Array.replicate_zero,List.push_toArray,List.append_toArray,List.nil_append,List.cons_append]
 gi_wp2_with (first
  | (gi_at_range;refine wpListIn_range_own _ rfl _ 94 rfl 9 139 keyedS Tryz.underlying94 _ b fs.length _ rfl hown ?_;intro w0 hrg0 hg0 hs0)
  | gi_in)
 go_frame
 gi_loopw [4] (fun _ wr=>∃ (left:Lit→Bool) (cnt:Nat) (ps:List (Nm×Nat)),wr.ranges Tryz.prog 9 ptrElem b W.heap.size fs.length D0 left cnt∧ps.length+cnt≤Maps.size D0∧Collected D0 left (ps.map (·.1))∧(∀ p∈ps,fs.lookup p.1=some p.2)∧J (ps.map (·.2)) wr)
  (fun _ wr=>wr.rangeLeft b W.heap.size)
 case atStart=>
  exact⟨_,_,[],hrg0,by simp,Collected.start D0,by simp,hJ [] W w0 none h0 hg0 (fun r e=>by cases e)⟩
 case round=>
  obtain⟨left,cnt,ps,hrg,hcs,hC,hV,hJs⟩:=hrel
  gi_wp2_with (first
   | (gi_at_next;refine wpListIn_next_ranges _ rfl _ rfl 9 keyedS ptrElem encStr ptrOf (fun key kl hk=>by obtain⟨x,hx,_⟩:=Maps.keyOf_str Tryz.underlying9 hk;exact⟨x,hx⟩) (fun v y hv=>by unfold ptrElem at hv;split at hv;exact⟨none,rfl⟩;exact⟨some _,rfl⟩;cases hv) b W.heap.size fs.length _ _ _ rfl hrg ?_ ?_)
   | gi_in)
  ·
   intro hc0 hl0;gi_wp2
   go_end0
   refine⟨⟨_,rfl⟩,.inl ⟨_,(pairs_perm hC.1 hnd hV fun x=>?_).map _,hJs⟩⟩
   rw[←(hD x).2]
   exact⟨fun h=>((hC.2 x).1 h).1,fun h=>by rw[hC.2 x,hl0];exact⟨h,by simp⟩⟩
  ·
   intro x c kl yd yp w2 cnt2 hkey hlk hv hat hrg2 hlt hg2 hs2 hen;obtain⟨x',ex,rfl,_⟩:=Maps.keyOf_str Tryz.underlying9 hkey
   obtain rfl:x=x':=encStr_inj ex
   have hC2':=hC.step hlk hat
   have hc:fs.lookup x=c:=by
    have h1:=hat .nil
    rw[(hD x).1] at h1
    rw[ptrElem_of] at hv;have h2:datOf c=yd:=by simpa using congrArg (fun z=>z.map (·.1)) hv
    exact datOf_inj (h1.trans h2.symm)
   have hsome:(fs.lookup x).isSome=true:=by
    rw[←(hD x).2]
    exact ((hC2'.2 x).1 (by simp)).1
   obtain⟨bl,hbl⟩:∃ bl,fs.lookup x=some bl:=Option.isSome_iff_exists.1 hsome
   rw[hbl] at hc;subst hc;have hJ2:J (ps.map (·.2)) w2:=hJ _ wr w2 (some W.heap.size) hJs hg2 (fun r e=>by cases e;exact⟨Nat.le_refl _,hrg.iter_walk⟩)
   obtain⟨fn,tmps,assign,body,hy,hR⟩:=hY (ps.map (·.2)) bl w2 (List.mem_map.2 ⟨(x,bl),lookup_some hbl,rfl⟩) hJ2 (by simp;omega)
   clear hs2;have hC2:Collected D0 (fun z=>left z && !z.sameKey (.string x)) ((ps++[(x,bl)]).map (·.1)):=by simpa using hC2'
   have hV2:∀ p∈ps++[(x,bl)],fs.lookup p.1=some p.2:=fun p hp=>(List.mem_append.1 hp).elim (hV p) (fun e=>by simp at e;subst e;exact hbl)
   clear hbl hsome hC2';dsimp only[encP] at hy
   gi_wp2
   refine hR.mono ?_
   rintro e W3 (⟨rfl,hJ3,hk3⟩ | ⟨rfl,hJx3⟩)
   ·gi_wp2
    have hrg3:=hrg2.of_walks hk3
    go_roundw
    case rel=>exact⟨_,cnt2,ps++[(x,bl)],hrg3,by simp;omega,hC2,hV2,by simpa using hJ3⟩
    case measure=>rw[hrg3.left_eq,hrg.left_eq];exact hlt
   ·gi_wp2
    refine bodyPost_ret (results_none rfl _ _ _) rfl ?_
    exact⟨⟨_,rfl⟩,.inr ⟨_,trivial,hJx3⟩⟩
theorem keys1_in (F:Fence) (n:Nat) (h8:F.fn 116) (hro:F.round=none) (hn:1≤n) (l Bm b:Nat) (fs:List (Nm×Nat)) (J Jx:List Nm→World→Prop)
  (hY:∀ pre x W,x∈fs.map (·.1)→J pre W→pre.length<fs.length→YieldAt F (n-1) Tryz.prog l #[encStr x] W fun e W'=>
   (e = .returned (.bool true)∧J (pre++[x]) W'∧KeepsWalks W W')∨(e = .returned (.bool false)∧Jx (pre++[x]) W'))
  (W:World) (hJ:AbidesFrom W.heap.size J) (hm:W.cell? ⟨Bm,0,none⟩=some (.map (some b))) (hmap:MapAt W b fs) (h0:J [] W) :
  CallsIn F n Tryz.prog 116 #[.func (.yield l) #[] #[],.pointer (some ⟨Bm,0,none⟩)] W fun e W'=>(∃ v,e = .returned v)∧
   ((∃ xs,xs.Perm (fs.map (·.1))∧J xs W')∨(∃ pre,True∧Jx pre W')):=by
 obtain⟨hnd,D0,hown,hsz,hD⟩:=hmap
 refine callsIn_of_wp Tryz.func116 rfl h8 ?_ hro
 simp only[Tryz.ntmps116,List.size_toArray,List.length_cons,List.length_nil,Nat.reduceAdd,Nat.reduceSub,Array.replicate_succ,Array.replicate_zero,List.push_toArray,List.append_toArray,List.nil_append,List.cons_append]
 gi_wp2_with (first
  | (gi_at_range;refine wpListIn_range_own _ rfl _ 94 rfl 9 139 keyedS Tryz.underlying94 _ b fs.length _ rfl hown ?_;intro w0 hrg0 hg0 hs0)
  | gi_in)
 go_frame
 gi_loopw [3] (fun _ wr=>∃ (left:Lit→Bool) (cnt:Nat) (ps:List (Nm×Nat)),wr.ranges Tryz.prog 9 ptrElem b W.heap.size fs.length D0 left cnt∧ps.length+cnt≤Maps.size D0∧Collected D0 left (ps.map (·.1))∧(∀ p∈ps,fs.lookup p.1=some p.2)∧J (ps.map (·.1)) wr)
  (fun _ wr=>wr.rangeLeft b W.heap.size)
 case atStart=>
  exact⟨_,_,[],hrg0,by simp,Collected.start D0,by simp,hJ [] W w0 none h0 hg0 (fun r e=>by cases e)⟩
 case round=>
  obtain⟨left,cnt,ps,hrg,hcs,hC,hV,hJs⟩:=hrel
  gi_wp2_with (first
   | (gi_at_next;refine wpListIn_next_ranges _ rfl _ rfl 9 keyedS ptrElem encStr ptrOf (fun key kl hk=>by obtain⟨x,hx,_⟩:=Maps.keyOf_str Tryz.underlying9 hk;exact⟨x,hx⟩) (fun v y hv=>by unfold ptrElem at hv;split at hv;exact⟨none,rfl⟩;exact⟨some _,rfl⟩;cases hv) b W.heap.size fs.length _ _ _ rfl hrg ?_ ?_)
   | gi_in)
  ·
   intro hc0 hl0;gi_wp2
   go_end0
   refine⟨⟨_,rfl⟩,.inl ⟨_,(pairs_perm hC.1 hnd hV fun x=>?_).map _,hJs⟩⟩
   rw[←(hD x).2]
   exact⟨fun h=>((hC.2 x).1 h).1,fun h=>by rw[hC.2 x,hl0];exact⟨h,by simp⟩⟩
  ·
   intro x c kl yd yp w2 cnt2 hkey hlk hv hat hrg2 hlt hg2 hs2 hen;obtain⟨x',ex,rfl,_⟩:=Maps.keyOf_str Tryz.underlying9 hkey
   obtain rfl:x=x':=encStr_inj ex
   have hC2':=hC.step hlk hat
   have hc:fs.lookup x=c:=by
    have h1:=hat .nil
    rw[(hD x).1] at h1
    rw[ptrElem_of] at hv;have h2:datOf c=yd:=by simpa using congrArg (fun z=>z.map (·.1)) hv
    exact datOf_inj (h1.trans h2.symm)
   have hsome:(fs.lookup x).isSome=true:=by
    rw[←(hD x).2]
    exact ((hC2'.2 x).1 (by simp)).1
   obtain⟨bl,hbl⟩:∃ bl,fs.lookup x=some bl:=Option.isSome_iff_exists.1 hsome
   rw[hbl] at hc;subst hc;have hJ2:J (ps.map (·.1)) w2:=hJ _ wr w2 (some W.heap.size) hJs hg2 (fun r e=>by cases e;exact⟨Nat.le_refl _,hrg.iter_walk⟩)
   obtain⟨fn,tmps,assign,body,hy,hR⟩:=hY (ps.map (·.1)) x w2 (List.mem_map.2 ⟨(x,bl),lookup_some hbl,rfl⟩) hJ2 (by simp;omega)
   clear hs2;have hC2:Collected D0 (fun z=>left z && !z.sameKey (.string x)) ((ps++[(x,bl)]).map (·.1)):=by simpa using hC2'
   have hV2:∀ p∈ps++[(x,bl)],fs.lookup p.1=some p.2:=fun p hp=>(List.mem_append.1 hp).elim (hV p) (fun e=>by simp at e;subst e;exact hbl)
   clear hbl hsome hC2';gi_wp2
   refine hR.mono ?_
   rintro e W3 (⟨rfl,hJ3,hk3⟩ | ⟨rfl,hJx3⟩)
   ·gi_wp2
    have hrg3:=hrg2.of_walks hk3
    go_roundw
    case rel=>exact⟨_,cnt2,ps++[(x,bl)],hrg3,by simp;omega,hC2,hV2,by simpa using hJ3⟩
    case measure=>rw[hrg3.left_eq,hrg.left_eq];exact hlt
   ·gi_wp2
    refine bodyPost_ret (results_none rfl _ _ _) rfl ?_
    exact⟨⟨_,rfl⟩,.inr ⟨_,trivial,hJx3⟩⟩
theorem mvalues_in (F:Fence) (n:Nat) (hf:F.fn 162) (hro:F.round=none) (mb:Option Nat) (w:World) :
  CallsIn F n Tryz.prog 162 #[.map mb] w fun e w'=>e = .returned (.func (.func 187) #[] #[.pointer (some ⟨w.heap.size,0,none⟩)])∧w'=w.alloc (.cells #[.map mb] 94):=by
 refine callsIn_of_wp Tryz.func162 rfl hf ?_ hro
 simp only[Tryz.ntmps162,List.size_toArray,List.length_cons,List.length_nil,Nat.reduceAdd,Nat.reduceSub,Array.replicate_succ,Array.replicate_zero,List.push_toArray,List.append_toArray,List.nil_append,List.cons_append]
 gi_wp2
 go_ret;exact⟨rfl,rfl⟩
theorem MapAt.below {w W:World}{mb:Nat}{fs:List (Nm×Nat)}(h:MapAt w mb fs)(hW:Below w.heap.size w W):MapAt W mb fs:=
 h.chg (Chg.of_below hW Nil) (fun h=>h)
theorem stops_of {β:Type}{P:Program}{F:Fence}{n:Nat}{g:Nat}{lb:Array Value}{enc:β→Value}{N:Nat}{w:World} (M:β→Prop) (S:List β→Prop)
  (h:∀ (l:Nat) (J Jx:List β→World→Prop) (W:World),Below w.heap.size w W→AbidesFrom W.heap.size J→
   (∀ pre x W1,M x→J pre W1→pre.length<N→YieldAt F (n-1) P l #[enc x] W1 fun e W'=>(e = .returned (.bool true)∧J (pre++[x]) W'∧KeepsWalks W1 W')∨(e = .returned (.bool false)∧Jx (pre++[x]) W'))→J [] W→
   CallsIn F n P g (#[.func (.yield l) #[] #[]]++lb) W fun e W'=>(∃ v,e = .returned v)∧((∃ xs,S xs∧J xs W')∨(∃ pre,True∧Jx pre W'))) :
  SeqStops F n P g lb (fun x:{b // M b}=>enc x.1) (fun xs=>S (xs.map (·.1))) (fun _=>True) N w:=fun l J Jx W hW hJ _ hY h0=>by
 refine (h l (fun q W=>∃ l',l'.map (·.1)=q∧J l' W) (fun q W=>∃ l',l'.map (·.1)=q∧Jx l' W) W hW ?_ ?_ ⟨[],rfl,h0⟩).mono ?_
 ·rintro s X Y row ⟨l',e,hj⟩ hg hr
  exact⟨l',e,hJ l' X Y row hj hg hr⟩
 ·rintro pre x W1 hx ⟨l',rfl,hj⟩ hlt
  obtain⟨fn,tmps,assign,body,hy,hR⟩:=hY l' ⟨x,hx⟩ W1 hj (by simpa using hlt)
  refine⟨fn,tmps,assign,body,hy,hR.mono ?_⟩
  rintro e W' (⟨h1,h2,h3⟩ | ⟨h1,h2⟩)
  ·exact .inl ⟨h1,⟨_,by simp,h2⟩,h3⟩
  ·exact .inr ⟨h1,_,by simp,h2⟩
 ·rintro e W' ⟨hv,⟨xs,hs,l',rfl,hj⟩ | ⟨pre,_,l',_,hj⟩⟩
  ·exact⟨hv,.inl ⟨l',hs,hj⟩⟩
  ·exact⟨hv,.inr ⟨l',trivial,hj⟩⟩
theorem values_stops (F:Fence) (n:Nat)(h7:F.fn 187)(hro:F.round=none)(hn:1≤n) (Bm b:Nat) (fs:List (Nm×Nat)) (w:World)(hBm:Bm<w.heap.size)
  (hm:w.cell? ⟨Bm,0,none⟩=some (.map (some b)))(hmap:MapAt w b fs) :
  SeqStops F n Tryz.prog 187 #[.pointer (some ⟨Bm,0,none⟩)] (fun x:{b // b∈fs.map (·.2)}=>encP x.1) (fun xs=>(xs.map (·.1)).Perm (fs.map (·.2))) (fun _=>True) fs.length w:=
 stops_of (β:=Nat) (enc:=encP) (fun b=>b∈fs.map (·.2)) (fun xs=>xs.Perm (fs.map (·.2))) fun l J Jx W hW hJ hY h0=>by
  have e:(#[Value.func (.yield l) #[] #[]] ++ #[Value.pointer (some ⟨Bm,0,none⟩)]:Array Value) = #[.func (.yield l) #[] #[],.pointer (some ⟨Bm,0,none⟩)]:=rfl
  rw[e];exact values1_in F n h7 hro hn l Bm b fs J Jx hY W hJ ((hW.cell (p:=⟨Bm,0,none⟩) hBm).trans hm) (hmap.below hW) h0
theorem keys_stops (F:Fence) (n:Nat)(h7:F.fn 116)(hro:F.round=none)(hn:1≤n) (Bm b:Nat) (fs:List (Nm×Nat)) (w:World)(hBm:Bm<w.heap.size)
  (hm:w.cell? ⟨Bm,0,none⟩=some (.map (some b)))(hmap:MapAt w b fs) :
  SeqStops F n Tryz.prog 116 #[.pointer (some ⟨Bm,0,none⟩)] (fun x:{b // b∈fs.map (·.1)}=>encStr x.1) (fun xs=>(xs.map (·.1)).Perm (fs.map (·.1))) (fun _=>True) fs.length w:=
 stops_of (β:=Nm) (enc:=encStr) (fun b=>b∈fs.map (·.1)) (fun xs=>xs.Perm (fs.map (·.1))) fun l J Jx W hW hJ hY h0=>by
  have e:(#[Value.func (.yield l) #[] #[]] ++ #[Value.pointer (some ⟨Bm,0,none⟩)]:Array Value) = #[.func (.yield l) #[] #[],.pointer (some ⟨Bm,0,none⟩)]:=rfl
  rw[e];exact keys1_in F n h7 hro hn l Bm b fs J Jx hY W hJ ((hW.cell (p:=⟨Bm,0,none⟩) hBm).trans hm) (hmap.below hW) h0
theorem mkeys_in (F:Fence) (n:Nat) (hf:F.fn 81) (hro:F.round=none) (mb:Option Nat) (w:World) :
  CallsIn F n Tryz.prog 81 #[.map mb] w fun e w'=>e = .returned (.func (.func 116) #[] #[.pointer (some ⟨w.heap.size,0,none⟩)])∧w'=w.alloc (.cells #[.map mb] 94):=by
 refine callsIn_of_wp Tryz.func81 rfl hf ?_ hro
 simp only[Tryz.ntmps81,List.size_toArray,List.length_cons,List.length_nil,Nat.reduceAdd,Nat.reduceSub,Array.replicate_succ,Array.replicate_zero,List.push_toArray,List.append_toArray,List.nil_append,List.cons_append]
 gi_wp2
 go_ret;exact⟨rfl,rfl⟩
end Go.Proofs.YtdjmifaidgbbaaaGreatDoor
