/-
  A list of topics: what it says, plain; and the library's calls that read it. (Of the topics' seat.)
-/
import Derived.Test.YtobegmcbfgnpnaaGreatDoorU09
import Derived.Test.YtobegmcbfgnpnaaGreatDoorU12
import Derived.StillTailTactics
set_option linter.unusedVariables false
set_option linter.unusedSimpArgs false
set_option maxHeartbeats 0
set_option maxRecDepth 200000
namespace Go.Proofs.YtobegmcbfgnpnaaGreatDoor
open Go.RowKit Go.Lib Go.Shelf
structure Tp where
 name:List UInt8
 comp:Bool
 starts:List Int
def digitsC:List UInt8:=[48,49,50,51,52,53,54,55,56,57]
def numT (x:List UInt8):Option Int:=match atoiAll x with
 | .ok v=>if x.all (digitsC.contains ·) then some v else none
 | _=>none
def numsT:List (List UInt8)→Option (List Int)
 | []=>some []
 | x::r=>match numT x,numsT r with
  | some v,some l=>some (v::l)
  | _,_=>none
def lineT (s:List UInt8):Option Tp:=match cutAt 32 s with
 | n::c::x::r=>if nameOk 10 cutTopic n=true∧(c=[48]∨c=[49]) then (numsT (x::r)).map fun l=>⟨n,c==[49],l⟩ else none
 | _=>none
def listT:List (List UInt8)→Option (List Tp)
 | []=>some []
 | x::r=>match lineT x,listT r with
  | some v,some l=>some (v::l)
  | _,_=>none
theorem numsT_app:∀ (a b:List (List UInt8)),numsT (a++b)=match numsT a,numsT b with | some x,some y=>some (x++y) | _,_=>none
 | [],b=>by
  show numsT b=_
  cases h:numsT b<;>simp[numsT,h]
 | x::a,b=>by
  have ih:=numsT_app a b
  have e1:∀ r,numsT (x::r)=match numT x,numsT r with | some v,some l=>some (v::l) | _,_=>none:=fun _=>rfl
  rw[List.cons_append,e1,e1,ih];cases numT x<;>cases numsT a<;>cases numsT b<;>rfl
theorem listT_app:∀ (a b:List (List UInt8)),listT (a++b)=match listT a,listT b with | some x,some y=>some (x++y) | _,_=>none
 | [],b=>by
  show listT b=_
  cases h:listT b<;>simp[listT,h]
 | x::a,b=>by
  have ih:=listT_app a b
  have e1:∀ r,listT (x::r)=match lineT x,listT r with | some v,some l=>some (v::l) | _,_=>none:=fun _=>rfl
  rw[List.cons_append,e1,e1,ih];cases lineT x<;>cases listT a<;>cases listT b<;>rfl
theorem numsT_snoc (a:List (List UInt8)) (x:List UInt8) {l:List Int}{v:Int}(h:numsT a=some l)(hx:numT x=some v):numsT (a++[x])=some (l++[v]):=by
 rw[numsT_app,h];simp[numsT,hx]
theorem numsT_bad {a b:List (List UInt8)}{x:List UInt8}(hx:numT x=none):numsT (a++x::b)=none:=by
 rw[numsT_app];have:numsT (x::b)=none:=by simp[numsT,hx]
 rw[this];cases numsT a<;>rfl
theorem listT_snoc (a:List (List UInt8)) (x:List UInt8) {l:List Tp}{v:Tp}(h:listT a=some l)(hx:lineT x=some v):listT (a++[x])=some (l++[v]):=by
 rw[listT_app,h];simp[listT,hx]
theorem listT_bad {a b:List (List UInt8)}{x:List UInt8}(hx:lineT x=none):listT (a++x::b)=none:=by
 rw[listT_app];have:listT (x::b)=none:=by simp[listT,hx]
 rw[this];cases listT a<;>rfl
theorem numsT_len:∀ {a:List (List UInt8)}{l:List Int},numsT a=some l→l.length=a.length
 | [],l,h=>by simp[numsT] at h;subst h;rfl
 | x::a,l,h=>by
  unfold numsT at h;cases hx:numT x with
  | none=>rw[hx] at h;simp at h
  | some v=>
   cases ha:numsT a with
   | none=>rw[hx,ha] at h;simp at h
   | some m=>
    rw[hx,ha] at h;simp at h
    subst h;simp[numsT_len ha]
def MaxL (w:World):Prop:=∃ m,w.cell? ⟨5,0,none⟩=some (.int .i64 m)
theorem MaxL.chg {S:Nat→Prop}{w w':World}(h:MaxL w)(hc:Chg S w w')(hn:¬S 5):MaxL w':=h.elim fun m hm=>⟨m,hc.cell hm hn⟩
theorem MaxL.lt {w:World}(h:MaxL w):5<w.heap.size:=h.elim fun m hm=>World.block_lt_of_cell? _ _ hm
theorem split_any (s:ByteArray) (c:UInt8) (w:World)(hs:s.size≤1000000)(hM:MaxL w) :
  Calls Tryz.prog 57 #[.string s,.string ⟨#[c]⟩] w fun e w'=>∃ ws:List ByteArray,ws.map (·.data.toList)=cutAt c s.data.toList∧e = .returned (.slice (some ⟨w.heap.size,0,none⟩) ws.length ws.length)∧w'=w.alloc (.cells (ws.map Value.string).toArray 9):=by
 obtain⟨m,hm⟩:=hM
 have h:=Any.strings_Split { Tryz.laysM146 with } Tryz.laysM146.i9 s ⟨#[c]⟩ m w (by omega) hm (Nat.le_refl _)
 refine h.mono fun e w' ⟨h1,h2⟩=>⟨splitB ⟨#[c]⟩ 0 (countB s ⟨#[c]⟩) s,?_,?_,h2⟩
 ·rw[splitB_data];exact splitK_one c _ _ (Nat.le_refl _)
 ·rw[h1,splitB_all ⟨#[c]⟩ (Nat.le_refl _) 0 _ s rfl]
theorem suffix_any (s:ByteArray) (w:World)(hs:s.size≤1000000) :
  Calls Tryz.prog 115 #[.string s,.string ⟨#[10]⟩] w fun e w'=>e = .returned (.string ⟨(chop s.data.toList).toArray⟩)∧w=w':=by
 have h:=Any.strings_TrimSuffix Tryz.lays102 s ⟨#[10]⟩ w (by omega)
 exact h.mono fun e w' ⟨h1,h2⟩=>⟨h1,h2.symm⟩
theorem atoiBig_any {w:World}(hT:TabE w) (s:ByteArray)(hs:s.size≤1000000) :
  Calls Tryz.prog 59 #[.string s] w fun e w'=>Chg Nil w w'∧
   ((∃ v,atoiAll s.data.toList = .ok v∧e = .returned (.tuple #[.int .i64 v,.nilIface]))∨
    ((∀ v,atoiAll s.data.toList≠.ok v)∧∃ v t N,e = .returned (.tuple #[.int .i64 v,.iface t (.pointer (some ⟨N,0,none⟩))]))):=by
 rcases h:atoiAll s.data.toList with v | _ | _
 ·exact (Any.strconv_Atoi_ok Tryz.laysC172 s (by omega) v h w).mono fun e w' ⟨h1,h2⟩=>⟨chg_bytes h2,.inl ⟨v,rfl,h1⟩⟩
 ·obtain⟨tp,p,hv⟩:=hT.syn
  exact (Any.strconv_Atoi_syntax_var Tryz.laysC172 s (by omega) h tp p w hv).mono fun e w' ⟨N,h1,_,_,h2⟩=>⟨Chg.of_below h2 _,.inr ⟨fun v=>(by simp),_,_,N,h1⟩⟩
 ·obtain⟨tp,p,hv⟩:=hT.rng
  exact (Any.strconv_Atoi_range_var Tryz.laysC172 s (by omega) h tp p w hv).mono fun e w' ⟨N,h1,_,_,h2⟩=>⟨Chg.of_below h2 _,.inr ⟨fun v=>(by simp),_,_,N,h1⟩⟩
theorem trimD_any (s:ByteArray) (w:World)(hs:s.size≤1000000) :
  Calls Tryz.prog 108 #[.string s,.string ⟨digitsC.toArray⟩] w fun e w'=>∃ t:ByteArray,e = .returned (.string t)∧(t=⟨#[]⟩↔s.data.toList.all (digitsC.contains ·)=true)∧Chg Nil w w':=by
 have h:=Any.strings_Trim_laid Tryz.lays160 (by kernel_rfl) s ⟨digitsC.toArray⟩ w (by omega) (by decide) (ascii_of_all (by decide))
 refine h.mono fun e w' ⟨h1,h2⟩=>⟨_,h1,?_,Chg.of_below h2 _⟩
 have h3:=trim_nil (l:=s.data.toList) (cs:=digitsC)
 rw[←h3];constructor
 ·intro e;have:=congrArg (fun b:ByteArray=>b.data.toList) e
  simpa using this
 ·intro e;have e':Lib.trimS s.data.toList (ByteArray.mk digitsC.toArray).data.toList=[]:=e
  rw[e']
structure Pl where
 at':Nat
 size:Nat
 base:Int
 en:Int
 time:Int
def Pl.cells (p:Pl):List Value:=[.int .i64 (p.at':Nat),.int .i64 (p.size:Nat),.int .i64 p.base,.int .i64 p.en,.int .i64 p.time]
theorem Pl.cells_one (p:Pl):∀ u∈p.cells,u.oneCell'=true:=by
 intro u hu;simp only[Pl.cells,List.mem_cons,List.not_mem_nil,or_false] at hu
 rcases hu with rfl | rfl | rfl | rfl | rfl<;>rfl
theorem fm_get {α:Type}{n:Nat}{f:α→List Value}(hf:∀ a,(f a).length=n):∀ (l:List α) (i:Nat)(hi:i<l.length) (j:Nat) (u:Value),(f l[i])[j]? = some u→(l.flatMap f)[i*n+j]? = some u
 | [],i,hi,_,_,_=>by simp at hi
 | a::l,i,hi,j,u,hj=>by
  rw[List.flatMap_cons];cases i with
  | zero=>
   have hl:j<(f a).length:=(List.getElem?_eq_some_iff.1 hj).1
   rw[Nat.zero_mul,Nat.zero_add,List.getElem?_append_left hl]
   exact hj
  | succ i=>
   have e:(i+1)*n+j=n+(i*n+j):=by rw[Nat.add_mul];omega
   rw[e,List.getElem?_append_right (by rw[hf];omega),hf,Nat.add_sub_cancel_left]
   exact fm_get hf l i (by simpa using hi) j u (by simpa using hj)
theorem plT:SliceT Tryz.prog 221 226 5 40:=
 ⟨Tryz.underlying221,by
  have h:(Tryz.prog.info? 226).map (fun i=>(i.zero,i.size,i.bytes))=some (some (.agg #[.int .i64 0,.int .i64 0,.int .i64 0,.int .i64 0,.int .i64 0]),5,40):=by kernel_rfl
  obtain⟨i,hi,hz,h1,h2⟩:=info_parts h
  exact⟨i,_,hi,hz,rfl,h1,h2⟩⟩
def OwnP (w:World) (v:Value) (l:List Pl):Prop:=w.ownsRow 0 226 5 v l.length (l.flatMap Pl.cells)
theorem OwnP.nil (w:World):OwnP w (.slice none 0 0) []:=World.ownsRow_nil w 0 _ 5
theorem OwnP.chg {S:Nat→Prop}{w w':World}{v:Value}{l:List Pl}(h:OwnP w v l)(hc:Chg S w w')(hn:∀ k,v.ownBlock=some k→¬S k):OwnP w' v l:=ownsRow_chg h hc hn
theorem OwnP.lt {w:World}{v:Value}{l:List Pl}(h:OwnP w v l):∀ k,v.ownBlock=some k→k<w.heap.size:=ownsRow_lt h
theorem OwnP.val {w:World}{v:Value}{l:List Pl}(h:OwnP w v l):∃ a cap,v = .slice a l.length cap∧l.length≤cap∧(∀ x,a=some x→v.ownBlock=some x.block)∧
  ∀ i (h:i<l.length),∃ g,a=some ⟨g,0,none⟩∧∀ j u,(l[i].cells)[j]? = some u→w.cell? ⟨g,i*5+j,none⟩=some u:=by
 rcases h.2 with ⟨rfl,hn⟩ | ⟨g,cap,cur,rfl,_,_,hle,_⟩
 ·exact⟨none,0,by rw[hn],by omega,fun x hx=>(by cases hx),fun i hi=>absurd hi (by omega)⟩
 ·have e1:∀ j,(⟨g,0,none⟩:Addr).add j=⟨g,j,none⟩:=fun j=>by unfold Addr.add;split<;>simp_all
  refine⟨some ⟨g,0,none⟩,cap,rfl,hle,fun x hx=>(by cases hx;rfl),fun i hi=>⟨g,rfl,fun j u hj=>?_⟩⟩
  have:=World.ownsRow.cells h (g:=g) rfl (i*5+j) _ (fm_get (f:=Pl.cells) (n:=5) (fun _=>rfl) l i hi j _ hj)
  rwa [e1] at this
theorem OwnP.form {w:World}{v:Value}{l:List Pl}(h:OwnP w v l):v = .slice (vA v) l.length (vC v):=by
 obtain⟨a,c,rfl,_⟩:=h.val
 rfl
theorem OwnP.row {w:World}{v:Value}{l:List Pl}(h:OwnP w v l) {k:Nat}(hk:v.ownBlock=some k):∃ cur,w.heap[k]? = some (.cells cur 226 (0,0)):=by
 rcases h.2 with ⟨rfl,_⟩ | ⟨g,cap,cur,rfl,_,hg,_⟩
 ·cases hk
 ·obtain rfl:g=k:=Option.some.inj hk
  exact⟨cur,hg⟩
structure Sg where
 name:List UInt8
 base:Int
 pls:List Pl
 size:Nat
def Sg.next (g:Sg):Int:=match g.pls.getLast? with | some p=>p.en | none=>g.base
structure Sm (w:World) (s p:Nat) (v:Value) (g:Sg):Prop where
 c:Box w s [.pointer (some ⟨p,0,none⟩),.string ⟨g.name.toArray⟩,.int .i64 g.base,v,.int .i64 (g.size:Nat)] 223
 o:OwnP w v g.pls
def SHas (s:Nat) (v:Value) (k:Nat):Prop:=k=s∨v.ownBlock=some k
theorem Sm.lt {w:World}{s p:Nat}{v:Value}{g:Sg}(h:Sm w s p v g):∀ k,SHas s v k→k<w.heap.size:=by
 rintro k (rfl | hk)
 ·exact (Array.getElem?_eq_some_iff.1 h.c).1
 ·exact h.o.lt k hk
theorem Sm.chg {S:Nat→Prop}{w w':World}{s p:Nat}{v:Value}{g:Sg}(h:Sm w s p v g)(hc:Chg S w w')(hn:∀ k,SHas s v k→¬S k):Sm w' s p v g:=
 ⟨h.c.chg hc (hn _ (.inl rfl)),h.o.chg hc (fun k hk=>hn _ (.inr hk))⟩
theorem Sm.ne {w:World}{s p:Nat}{v:Value}{g:Sg}(h:Sm w s p v g):v.ownBlock≠some s:=fun e=>by
 have hq:w.heap[s]? = _:=h.c
 obtain⟨cur,hcur⟩:=h.o.row e
 rw[hq] at hcur;have:=(Obj.cells.inj (Option.some.inj hcur)).2.1
 exact absurd this (by decide)
theorem sbase_any {w:World}{s p:Nat}{v:Value}{g:Sg}(h:Sm w s p v g) :
  Calls Tryz.prog 98 #[.pointer (some ⟨s,0,none⟩)] w fun e w'=>e = .returned (.int .i64 g.base)∧w'=w:=by
 have c2:=h.c.cell (j:=2) rfl
 clear h;go_enter Tryz.func98,Tryz.ntmps98
 go_wp2_with fail;go_ret;exact⟨rfl,rfl⟩
theorem snext_any {w:World} {s p:Nat} {v:Value} {g:Sg} (h:Sm w s p v g) (hn:g.pls.length≤1000000) :
  Calls Tryz.prog 82 #[.pointer (some ⟨s,0,none⟩)] w fun e w'=>e = .returned (.int .i64 g.next)∧Chg Nil w w':=by
 have c2:=h.c.cell (j:=2) rfl
 have c3:=h.c.cell (j:=3) rfl
 obtain⟨a,c,hv,_,_,hcell⟩:=h.o.val
 subst hv;clear h;by_cases h0:g.pls.length=0
 ·have he:g.next=g.base:=by unfold Sg.next;rw[List.length_eq_zero_iff.1 h0];rfl
  have HE:=Lib.hid he
  have hl0:((g.pls.length:Int)==0)=true:=by rw[h0];rfl
  clear hcell he h0;go_enter Tryz.func82,Tryz.ntmps82
  go_wp2_with fail;go_ret;rw[HE.out];exact⟨rfl,Chg.refl _ _⟩
 ·have hl0:((g.pls.length:Int)==0)=false:=beq_eq_false_iff_ne.2 (by omega)
  obtain⟨b,rfl,hz⟩:=hcell (g.pls.length-1) (by omega)
  have z3:=hz 3 _ rfl
  have he:g.next=(g.pls[g.pls.length-1]'(by omega)).en:=by
   unfold Sg.next;rw[List.getLast?_eq_getElem?,List.getElem?_eq_getElem (by omega)]
  rw[he];obtain⟨en,hen⟩:∃ en,(g.pls[g.pls.length-1]'(by omega)).en=en:=⟨_,rfl⟩
  rw[hen] at z3 ⊢
  have hk0:(1:Int)≤(g.pls.length:Int):=by omega
  have hk1:(g.pls.length:Int)-1<(g.pls.length:Int):=by omega
  clear hz he hen h0 hcell;generalize g.pls.length=m at *;go_enter Tryz.func82,Tryz.ntmps82
  go_upto_region 3 with fail;refine wp_region_mono _ (Chg Nil) (by kernel_rfl) (fun _ _ _ h k=>h.trans k (fun _ h=>h.elim)) [[],[0],[1],[2],[],[4],[5],[6],[7],[8],[3,9],[10],[11],[12]] rfl (by kernel_rfl) (Chg.refl _ _).drew ?_
  iterate 3 ((with_reducible apply Walk.eq);case h=>(intro w2 hw2 N hN;simp only[depM];go_simp;(try go_bits);with_reducible exact hN _ (Chg.refl _ _)))
  ((with_reducible apply Walk.eq);case h=>(intro w2 hw2 N hN;have hq:=hw2.cell c3 (fun h=>h);simp only[depM];go_simp;with_reducible exact hN _ (Chg.refl _ _)))
  iterate 3 ((with_reducible apply Walk.eq);case h=>(intro w2 hw2 N hN;simp only[depM];go_simp;(try go_bits);with_reducible exact hN _ (Chg.refl _ _)))
  ((with_reducible apply Walk.eq);case h=>(intro w2 hw2 N hN;have hq:=hw2.cell c3 (fun h=>h);simp only[depM];go_simp;with_reducible exact hN _ (Chg.refl _ _)))
  iterate 4 ((with_reducible apply Walk.eq);case h=>(intro w2 hw2 N hN;simp only[depM];go_simp;(try go_bits);with_reducible exact hN _ (Chg.refl _ _)))
  ((with_reducible apply Walk.eq);case h=>(intro w2 hw2 N hN;have hq:=hw2.cell z3 (fun h=>h);simp only[depM];go_simp;with_reducible exact hN _ (Chg.refl _ _)))
  ((with_reducible apply Walk.eq);case h=>(intro w2 hw2 N hN;simp only[depM];go_simp;(try go_bits);with_reducible exact hN _ (Chg.refl _ _)))
  intro w6 hw6;simp only[List.nil_append,List.cons_append,Fin]
  go_simp;go_wp2_with fail;go_ret;exact⟨rfl,hw6⟩
end Go.Proofs.YtobegmcbfgnpnaaGreatDoor
