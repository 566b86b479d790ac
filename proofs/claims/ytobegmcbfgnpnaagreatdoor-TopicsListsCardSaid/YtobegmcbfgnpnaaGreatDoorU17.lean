/-
  The disk's map of files in memory: names to blocks; and the disk itself.
-/
import Derived.Test.YtobegmcbfgnpnaaGreatDoorU16
set_option linter.unusedVariables false
set_option linter.unusedSimpArgs false
set_option maxHeartbeats 0
set_option maxRecDepth 200000
namespace Go.Proofs.YtobegmcbfgnpnaaGreatDoor
open Go.RowKit Go.Maps
abbrev DU:=DataW Unit
theorem keyedS:Keyed Tryz.prog 9:=string_keyed Tryz.underlying9
theorem zeroPtr (w:World):(zeroValue 108).run Tryz.prog w = .ok (.pointer none) w:=by kernel_rfl
def ptrElem:Value→Option (DU×List MemPlace)
 | .pointer none=>some (.nil,[])
 | .pointer (some ⟨b,0,none⟩)=>some (.lit (.int .i64 b),[])
 | _=>none
def ptrOf (o:Option Nat):Value:=.pointer (o.map fun b=>⟨b,0,none⟩)
def datOf:Option Nat→DU
 | none=>.nil
 | some b=>.lit (.int .i64 b)
theorem ptrElem_of (o:Option Nat):ptrElem (ptrOf o)=some (datOf o,[]):=by cases o<;>rfl
theorem ptrElem_inv {v:Value}{o:Option Nat}{ps:List MemPlace}(h:ptrElem v=some (datOf o,ps)):v=ptrOf o:=by
 unfold ptrElem at h;split at h
 ·cases o with
  | none=>rfl
  | some b=>simp[datOf] at h
 ·rename_i b
  cases o with
  | none=>simp[datOf] at h
  | some b'=>
   simp only[datOf,Option.some.injEq,Prod.mk.injEq,DataW.lit.injEq,Lit.int.injEq,true_and] at h
   have:b=b':=by omega
   rw[this];rfl
 ·cases h
theorem lookup_filter {α:Type} (x y:Nm):∀ fs:List (Nm×α),(fs.filter fun p=>decide (p.1≠x)).lookup y=if y=x then none else fs.lookup y
 | []=>by simp
 | (a,b)::r=>by
  have ih:=lookup_filter x y r
  by_cases hax:a=x
  ·subst hax;rw[List.filter_cons_of_neg (by simp),ih]
   by_cases hy:y=a
   ·simp[hy]
   ·have:(y==a)=false:=beq_eq_false_iff_ne.2 hy
    simp[hy,List.lookup_cons,this]
  ·rw[List.filter_cons_of_pos (by simpa using hax),List.lookup_cons,List.lookup_cons,ih]
   by_cases hya:y=a
   ·subst hya;simp[hax]
   ·have:(y==a)=false:=beq_eq_false_iff_ne.2 hya
    simp[this]
theorem lookup_put {α:Type} (x y:Nm) (b:α) (fs:List (Nm×α)):((fs.filter fun p=>decide (p.1≠x))++[(x,b)]).lookup y=if y=x then some b else fs.lookup y:=by
 rw[List.lookup_append,lookup_filter];by_cases h:y=x
 ·subst h;simp
 ·have:(y==x)=false:=beq_eq_false_iff_ne.2 h
  simp[h,List.lookup_cons,this]
theorem lookup_some {α:Type}{x:Nm}{b:α}:∀ {fs:List (Nm×α)},fs.lookup x=some b→(x,b)∈fs
 | (a,c)::r,h=>by
  rw[List.lookup_cons] at h;by_cases hxa:x=a
  ·subst hxa;simp at h
   subst h;simp
  ·have:(x==a)=false:=beq_eq_false_iff_ne.2 hxa
   simp only[this,Bool.false_eq_true,if_false] at h
   exact List.mem_cons_of_mem _ (lookup_some h)
theorem lookup_none {α:Type}{x:Nm}:∀ {fs:List (Nm×α)},fs.lookup x=none↔x ∉ fs.map (·.1)
 | []=>by simp
 | (a,c)::r=>by
  rw[List.lookup_cons];by_cases hxa:x=a
  ·subst hxa;simp
  ·have:(x==a)=false:=beq_eq_false_iff_ne.2 hxa
   simp only[this,Bool.false_eq_true,if_false,List.map_cons,List.mem_cons,not_or]
   rw[lookup_none (fs:=r)]
   simp[hxa]
theorem lookup_mem {α:Type}{x:Nm}{b:α}:∀ {fs:List (Nm×α)},(fs.map (·.1)).Nodup→(x,b)∈fs→fs.lookup x=some b
 | (a,c)::r,hn,h=>by
  rw[List.map_cons,List.nodup_cons] at hn;rw[List.lookup_cons];rcases List.mem_cons.1 h with h | h
  ·cases h;simp
  ·have hxa:x≠a:=fun e=>hn.1 (by rw[←e];exact List.mem_map_of_mem (f:=(·.1)) h)
   have:(x==a)=false:=beq_eq_false_iff_ne.2 hxa
   simp only[this,Bool.false_eq_true,if_false]
   exact lookup_mem hn.2 h
theorem filter_fst_nodup {α:Type}{fs:List (Nm×α)}(h:(fs.map (·.1)).Nodup) (x:Nm):((fs.filter fun p=>decide (p.1≠x)).map (·.1)).Nodup:=
 h.sublist (List.Sublist.map _ List.filter_sublist)
theorem put_fst_nodup {α:Type}{fs:List (Nm×α)}(h:(fs.map (·.1)).Nodup) (x:Nm) (b:α):(((fs.filter fun p=>decide (p.1≠x))++[(x,b)]).map (·.1)).Nodup:=by
 rw[List.map_append];refine List.nodup_append.2 ⟨filter_fst_nodup h x,by simp,fun y hy z hz e=>?_⟩
 simp at hz
 obtain⟨q,hq,rfl⟩:=List.mem_map.1 hy
 have:=(List.mem_filter.1 hq).2
 simp at this
 exact this (by rw[e,hz])
theorem filter_length {α:Type} (x:Nm):∀ {fs:List (Nm×α)},(fs.map (·.1)).Nodup→(fs.filter fun p=>decide (p.1≠x)).length+(if (fs.lookup x).isSome=true then 1 else 0)=fs.length
 | [],_=>by simp
 | (a,c)::r,hn=>by
  rw[List.map_cons,List.nodup_cons] at hn;have ih:=filter_length x hn.2
  by_cases hxa:a=x
  ·subst hxa;rw[List.filter_cons_of_neg (by simp),List.lookup_cons]
   have h0:r.lookup a=none:=lookup_none.2 hn.1
   rw[h0] at ih;simp at ih ⊢
   exact ih
  ·rw[List.filter_cons_of_pos (by simpa using hxa),List.lookup_cons]
   have:(x==a)=false:=beq_eq_false_iff_ne.2 (fun e=>hxa e.symm)
   simp only[this,Bool.false_eq_true,if_false,List.length_cons]
   omega
def MapAt (w:World) (mb:Nat) (fs:List (Nm×Nat)):Prop:=
 (fs.map (·.1)).Nodup∧∃ D:DU,w.ownsMap Tryz.prog 9 ptrElem mb fs.length D∧Maps.size D=fs.length∧
  ∀ x:Nm,D.atKey (.string x) .nil=datOf (fs.lookup x)∧Maps.has D (.string x)=(fs.lookup x).isSome
theorem ownsMap_grown {S:Nat→Prop}{w w':World}{P:Program}{k:TypeId}{R:Value→Option (DU×List MemPlace)}{b n:Nat}{D:DU}(h:w.ownsMap P k R b n D)(hc:Chg S w w')(hn:¬S b):w'.ownsMap P k R b n D:=by
 have hlt:=h.lt
 obtain⟨es,clock,hb,F,hs,hD⟩:=h
 exact⟨es,clock,(hc.block b hlt hn).trans hb,F,hs,hD⟩
theorem MapAt.chg {S:Nat→Prop}{w w':World}{mb:Nat}{fs:List (Nm×Nat)}(h:MapAt w mb fs)(hc:Chg S w w')(hn:¬S mb):MapAt w' mb fs:=by
 obtain⟨hnd,D,ho,rest⟩:=h
 exact⟨hnd,D,ownsMap_grown ho hc hn,rest⟩
theorem MapAt.lt {w:World}{mb:Nat}{fs:List (Nm×Nat)}(h:MapAt w mb fs):mb<w.heap.size:=by
 obtain⟨_,D,ho,_⟩:=h
 exact ho.lt
theorem MapAt.ne_row {w:World}{mb:Nat}{fs:List (Nm×Nat)}(h:MapAt w mb fs) {g:Nat}{cs:Array Value}{e:TypeId}{fr:Nat×Nat}(hg:w.heap[g]? = some (.cells cs e fr)):mb≠g:=by
 obtain⟨_,D,ho,_⟩:=h
 intro e1;subst e1;obtain⟨es,clock,hb,_⟩:=ho
 rw[hg] at hb;cases hb
theorem mapTurned_chg {w w':World}{b:Nat}(h:w.mapTurned w' b):Chg (fun i=>i=b) w w':=by
 have g:=h.grown
 exact⟨g.os,g.tape,g.output,g.size,fun k hk hn=>g.block k hk (fun e=>hn (Option.some.inj e))⟩
theorem ownsMap_tight {w:World}{P:Program}{k:TypeId}{R:Value→Option (DU×List MemPlace)}{b n:Nat}{D:DU}(h:w.ownsMap P k R b n D):w.ownsMap P k R b (Maps.size D) D:=by
 obtain⟨es,clock,hb,F,hs,rfl⟩:=h
 exact⟨es,clock,hb,F,by simp[Maps.size,length_sorted],rfl⟩
theorem key_str {s:ByteArray}(hs:s.size≤maxLen):keyOf Tryz.prog 9 (.string s)=some (.string s.data.toList):=WideMaps.keyOf_string_mk Tryz.underlying9 hs
theorem lit_ne {x y:Nm}(h:x≠y):(Lit.string x)≠.string y:=fun e=>h (by cases e;rfl)
theorem keyLit (x:Nm):WideAt.IsKeyLit (.string x):=trivial
theorem MapAt.made (w:World):MapAt (w.alloc (.map #[] 0)) w.heap.size []:=
 ⟨List.nodup_nil,_,World.ownsMap_made _ _ _ _,rfl,fun _=>⟨rfl,rfl⟩⟩
theorem MapAt.look {w:World}{mb:Nat}{fs:List (Nm×Nat)}(h:MapAt w mb fs) {s:ByteArray}(hs:s.size≤maxLen) :
  (Instr.lookup 105 (.map (some mb)) (.string s) false).run Tryz.prog w = .ok (ptrOf (fs.lookup s.data.toList)) w:=by
 obtain⟨_,D,ho,_,hD⟩:=h
 obtain⟨v,ps,hrun,hv⟩:=ho.lookup keyedS (t:=105) (e:=108) Tryz.underlying105 (zeroPtr w) (zd:=.nil) (zp:=[]) rfl (key_str hs)
 rw[(hD s.data.toList).1] at hv
 rw[hrun,ptrElem_inv hv]
theorem MapAt.len {w:World}{mb:Nat}{fs:List (Nm×Nat)}(h:MapAt w mb fs) (ty:TypeId):(Builtin.len_ #[105] ty #[.map (some mb)]).run Tryz.prog w = .ok (.int .i64 (fs.length:Nat)) w:=by
 obtain⟨_,D,ho,hs,_⟩:=h
 rw[←hs];exact ho.len Tryz.underlying105 ty
theorem MapAt.store {w:World}{mb:Nat}{fs:List (Nm×Nat)}(h:MapAt w mb fs)(hn:fs.length<maxLen) {s:ByteArray}(hs:s.size≤maxLen) (b:Nat) :
  ∃ w',(Instr.mapUpdate 105 (.map (some mb)) (.string s) (.pointer (some ⟨b,0,none⟩))).run Tryz.prog w = .ok () w'∧
   MapAt w' mb ((fs.filter fun p=>decide (p.1≠s.data.toList))++[(s.data.toList,b)])∧Chg (fun i=>i=mb) w w':=by
 obtain⟨hnd,D,ho,hsz,hD⟩:=h
 obtain⟨w',hrun,r1,r2⟩:=ho.store keyedS (t:=105) (e:=108) Tryz.underlying105 hn (key_str hs) (ptrElem_of (some b))
 have hT:=ho.tidy keyedS
 have hsz2:Maps.size (D.put (.string s.data.toList) (datOf (some b)))=((fs.filter fun p=>decide (p.1≠s.data.toList))++[(s.data.toList,b)]).length:=by
  rw[size_put hT,(hD _).2,List.length_append,List.length_singleton]
  have:=filter_length s.data.toList hnd
  split at this
  ·rename_i h;rw[if_pos h];omega
  ·rename_i h;rw[if_neg h];omega
 refine⟨w',hrun,⟨put_fst_nodup hnd _ _,_,?_,hsz2,fun y=>?_⟩,mapTurned_chg r2⟩
 ·rw[←hsz2];exact ownsMap_tight r1
 ·rw[lookup_put];by_cases e:y=s.data.toList
  ·subst e;rw[atKey_put_same hT.isMap (keyLit _),has_put_same hT.isMap (keyLit _)]
   simp
  ·rw[atKey_put_other (lit_ne e),has_put_other (lit_ne e),(hD y).1,(hD y).2]
   simp[e]
theorem MapAt.drop {w:World}{mb:Nat}{fs:List (Nm×Nat)}(h:MapAt w mb fs) {s:ByteArray}(hs:s.size≤maxLen) (ty:TypeId) :
  ∃ w',(Builtin.delete_ #[105,9] ty #[.map (some mb),.string s]).run Tryz.prog w = .ok (.tuple #[]) w'∧
   MapAt w' mb (fs.filter fun p=>decide (p.1≠s.data.toList))∧Chg (fun i=>i=mb) w w':=by
 obtain⟨hnd,D,ho,hsz,hD⟩:=h
 obtain⟨w',hrun,r1,r2⟩:=ho.drop keyedS (t:=105) (e:=108) Tryz.underlying105 (key_str hs) ty
 have hT:=ho.tidy keyedS
 have hsz2:Maps.size (D.del (.string s.data.toList))=(fs.filter fun p=>decide (p.1≠s.data.toList)).length:=by
  have h1:=size_del (k:=.string s.data.toList) hT
  rw[(hD _).2] at h1
  have:=filter_length s.data.toList hnd
  omega
 refine⟨w',hrun,⟨filter_fst_nodup hnd _,_,?_,hsz2,fun y=>?_⟩,mapTurned_chg r2⟩
 ·rw[←hsz2];exact ownsMap_tight r1
 ·rw[lookup_filter];by_cases e:y=s.data.toList
  ·subst e;rw[atKey_del_same,has_del_same];simp[datOf]
  ·rw[atKey_del_other (lit_ne e),has_del_other (lit_ne e),(hD y).1,(hD y).2]
   simp[e]
end Go.Proofs.YtobegmcbfgnpnaaGreatDoor
