/-
  Names: which texts may be names: plain data. A text is all of some bytes just if nothing is left when these are trimmed.
-/
import Derived.Lib.SlTrimSet
import Derived.Lib.Bytealg
import Derived.Test.YtdjmifaidgbbaaaGreatDoorT03
import Derived.Test.YtdjmifaidgbbaaaGreatDoorT04
import Derived.Test.YtdjmifaidgbbaaaGreatDoorProg
import Derived.StillTailTactics
import Derived.Deep.CutBlock
import Derived.Sort.BigQuietIn
set_option linter.unusedVariables false
set_option linter.unusedSimpArgs false
set_option maxHeartbeats 0
set_option maxRecDepth 200000
namespace Go.Proofs.YtdjmifaidgbbaaaGreatDoor
def cutDisk:List UInt8:=[97,98,99,100,101,102,103,104,105,106,107,108,109,110,111,112,113,114,115,116,117,118,119,120,121,122,48,49,50,51,52,53,54,55,56,57,45,46,47]
def nameOk (most:Nat) (cs:List UInt8) (l:List UInt8):Bool:=!l.isEmpty&&decide (l.length≤most)&&l.all (cs.contains ·)
theorem dropWhile_nil {p:UInt8→Bool}:∀ {l:List UInt8},l.dropWhile p=[]↔l.all p=true
 | []=>by simp
 | a::l=>by
  rw[List.dropWhile_cons];by_cases h:p a=true
  ·rw[if_pos h,dropWhile_nil,List.all_cons,h,Bool.true_and]
  ·rw[if_neg h,List.all_cons]
   simp[h]
theorem trim_nil {l cs:List UInt8}:Lib.trimS l cs=[]↔l.all (cs.contains ·)=true:=by
 unfold Lib.trimS Lib.trimLeftS Lib.trimRightS;rw[dropWhile_nil,List.all_reverse];constructor
 ·intro h;have hsplit:=List.takeWhile_append_dropWhile (p:=fun b=>cs.contains b) (l:=l.reverse)
  have h2:l.reverse.all (cs.contains ·)=true:=by
   rw[←hsplit,List.all_append,h,Bool.and_true,List.all_eq_true];intro x hx;exact List.all_eq_true.1 (List.all_takeWhile) x hx
  rwa [List.all_reverse] at h2
 ·intro h;rw[List.all_eq_true] at h ⊢
  intro x hx;exact h x (List.mem_reverse.1 ((List.dropWhile_sublist _).mem hx))
open Go.RowKit
structure Pl where
 at':Nat
 size:Nat
 base:Int
 en:Int
 time:Int
def Pl.cells (p:Pl):List Value:=[.int .i64 (p.at':Nat),.int .i64 (p.size:Nat),.int .i64 p.base,.int .i64 p.en,.int .i64 p.time]
theorem Pl.cells_one (p:Pl):∀ u∈p.cells,u.oneCell'=true:=by
 intro u hu;simp only[Pl.cells,List.mem_cons,List.not_mem_nil,or_false] at hu
 rcases hu with rfl | rfl | rfl | rfl | rfl<;>rfl
theorem fm_len {α:Type}{n:Nat}{f:α→List Value}(hf:∀ a,(f a).length=n):∀ l:List α,(l.flatMap f).length=l.length*n
 | []=>by simp
 | a::l=>by rw[List.flatMap_cons,List.length_append,hf,fm_len hf l,List.length_cons,Nat.add_mul];omega
theorem fm_get {α:Type}{n:Nat}{f:α→List Value}(hf:∀ a,(f a).length=n):∀ (l:List α) (i:Nat)(hi:i<l.length) (j:Nat) (u:Value),(f l[i])[j]? = some u→(l.flatMap f)[i*n+j]? = some u
 | [],i,hi,_,_,_=>by simp at hi
 | a::l,i,hi,j,u,hj=>by
  rw[List.flatMap_cons];cases i with
  | zero=>
   have hl:j<(f a).length:=(List.getElem?_eq_some_iff.1 hj).1
   rw[Nat.zero_mul,Nat.zero_add,List.getElem?_append_left hl]
   exact hj
  | succ i=>
   have e:(i+1)*n+j=n+(i*n+j):=by rw[Nat.add_mul];omega
   rw[e,List.getElem?_append_right (by rw[hf];omega),hf,Nat.add_sub_cancel_left]
   exact fm_get hf l i (by simpa using hi) j u (by simpa using hj)
theorem plT:SliceT Tryz.prog 153 157 5 40:=
 ⟨Tryz.underlying153,by
  have h:(Tryz.prog.info? 157).map (fun i=>(i.zero,i.size,i.bytes))=some (some (.agg #[.int .i64 0,.int .i64 0,.int .i64 0,.int .i64 0,.int .i64 0]),5,40):=by kernel_rfl
  obtain⟨i,hi,hz,h1,h2⟩:=info_parts h
  exact⟨i,_,hi,hz,rfl,h1,h2⟩⟩
def OwnP (w:World) (v:Value) (l:List Pl):Prop:=w.ownsRow 0 157 5 v l.length (l.flatMap Pl.cells)
theorem OwnP.nil (w:World):OwnP w (.slice none 0 0) []:=World.ownsRow_nil w 0 _ 5
theorem OwnP.chg {S:Nat→Prop}{w w':World}{v:Value}{l:List Pl}(h:OwnP w v l)(hc:Chg S w w')(hn:∀ k,v.ownBlock=some k→¬S k):OwnP w' v l:=ownsRow_chg h hc hn
theorem OwnP.lt {w:World}{v:Value}{l:List Pl}(h:OwnP w v l):∀ k,v.ownBlock=some k→k<w.heap.size:=ownsRow_lt h
theorem OwnP.val {w:World}{v:Value}{l:List Pl}(h:OwnP w v l):∃ a cap,v = .slice a l.length cap∧l.length≤cap∧(∀ x,a=some x→v.ownBlock=some x.block)∧
  ∀ i (h:i<l.length),∃ g,a=some ⟨g,0,none⟩∧∀ j u,(l[i].cells)[j]? = some u→w.cell? ⟨g,i*5+j,none⟩=some u:=by
 rcases h.2 with ⟨rfl,hn⟩ | ⟨g,cap,cur,rfl,_,_,hle,_⟩
 ·exact⟨none,0,by rw[hn],by omega,fun x hx=>(by cases hx),fun i hi=>absurd hi (by omega)⟩
 ·have e1:∀ j,(⟨g,0,none⟩:Addr).add j=⟨g,j,none⟩:=fun j=>by unfold Addr.add;split<;>simp_all
  refine⟨some ⟨g,0,none⟩,cap,rfl,hle,fun x hx=>(by cases hx;rfl),fun i hi=>⟨g,rfl,fun j u hj=>?_⟩⟩
  have:=World.ownsRow.cells h (g:=g) rfl (i*5+j) _ (fm_get (f:=Pl.cells) (n:=5) (fun _=>rfl) l i hi j _ hj)
  rwa [e1] at this
theorem OwnP.form {w:World}{v:Value}{l:List Pl}(h:OwnP w v l):v = .slice (vA v) l.length (vC v):=by
 obtain⟨a,c,rfl,_⟩:=h.val
 rfl
theorem OwnP.row {w:World}{v:Value}{l:List Pl}(h:OwnP w v l) {k:Nat}(hk:v.ownBlock=some k):∃ cur,w.heap[k]? = some (.cells cur 157 (0,0)):=by
 rcases h.2 with ⟨rfl,_⟩ | ⟨g,cap,cur,rfl,_,hg,_⟩
 ·cases hk
 ·obtain rfl:g=k:=Option.some.inj hk
  exact⟨cur,hg⟩
structure Sg where
 name:List UInt8
 base:Int
 pls:List Pl
 size:Nat
def Sg.next (g:Sg):Int:=match g.pls.getLast? with | some p=>p.en | none=>g.base
def latestOf (l:List Pl):Int:=l.foldl (fun t p=>max t p.time) (-1)
theorem latest_snoc (l:List Pl) {i:Nat}(hi:i<l.length):latestOf (l.take (i+1))=max (latestOf (l.take i)) l[i].time:=by
 unfold latestOf;rw[List.take_succ_eq_append_getElem hi,List.foldl_append]
 rfl
structure Sm (w:World) (s p:Nat) (v:Value) (g:Sg):Prop where
 c:Box w s [.pointer (some ⟨p,0,none⟩),.string ⟨g.name.toArray⟩,.int .i64 g.base,v,.int .i64 (g.size:Nat)] 155
 o:OwnP w v g.pls
def SHas (s:Nat) (v:Value) (k:Nat):Prop:=k=s∨v.ownBlock=some k
theorem Sm.lt {w:World}{s p:Nat}{v:Value}{g:Sg}(h:Sm w s p v g):∀ k,SHas s v k→k<w.heap.size:=by
 rintro k (rfl | hk)
 ·exact (Array.getElem?_eq_some_iff.1 h.c).1
 ·exact h.o.lt k hk
theorem Sm.chg {S:Nat→Prop}{w w':World}{s p:Nat}{v:Value}{g:Sg}(h:Sm w s p v g)(hc:Chg S w w')(hn:∀ k,SHas s v k→¬S k):Sm w' s p v g:=
 ⟨h.c.chg hc (hn _ (.inl rfl)),h.o.chg hc (fun k hk=>hn _ (.inr hk))⟩
theorem Sm.ne {w:World}{s p:Nat}{v:Value}{g:Sg}(h:Sm w s p v g):v.ownBlock≠some s:=fun e=>by
 have hq:w.heap[s]? = _:=h.c
 obtain⟨cur,hcur⟩:=h.o.row e
 rw[hq] at hcur;have:=(Obj.cells.inj (Option.some.inj hcur)).2.1
 exact absurd this (by decide)
theorem sbase_any {w:World}{s p:Nat}{v:Value}{g:Sg}(h:Sm w s p v g) :
  Calls Tryz.prog 57 #[.pointer (some ⟨s,0,none⟩)] w fun e w'=>e = .returned (.int .i64 g.base)∧w'=w:=by
 have c2:=h.c.cell (j:=2) rfl
 clear h;go_enter Tryz.func57,Tryz.ntmps57
 go_wp2_with fail;go_ret;exact⟨rfl,rfl⟩
theorem ssize_any {w:World}{s p:Nat}{v:Value}{g:Sg}(h:Sm w s p v g) :
  Calls Tryz.prog 59 #[.pointer (some ⟨s,0,none⟩)] w fun e w'=>e = .returned (.int .i64 (g.size:Nat))∧w'=w:=by
 have c2:=h.c.cell (j:=4) rfl
 clear h;go_enter Tryz.func59,Tryz.ntmps59
 go_wp2_with fail;go_ret;exact⟨rfl,rfl⟩
theorem snext_any {w:World} {s p:Nat} {v:Value} {g:Sg} (h:Sm w s p v g) (hn:g.pls.length≤1000000) :
  Calls Tryz.prog 52 #[.pointer (some ⟨s,0,none⟩)] w fun e w'=>e = .returned (.int .i64 g.next)∧Chg Nil w w':=by
 have c2:=h.c.cell (j:=2) rfl
 have c3:=h.c.cell (j:=3) rfl
 obtain⟨a,c,hv,_,_,hcell⟩:=h.o.val
 subst hv;clear h;by_cases h0:g.pls.length=0
 ·have he:g.next=g.base:=by unfold Sg.next;rw[List.length_eq_zero_iff.1 h0];rfl
  have HE:=Lib.hid he
  have hl0:((g.pls.length:Int)==0)=true:=by rw[h0];rfl
  clear hcell he h0;go_enter Tryz.func52,Tryz.ntmps52
  go_wp2_with fail;go_ret;rw[HE.out];exact⟨rfl,Chg.refl _ _⟩
 ·have hl0:((g.pls.length:Int)==0)=false:=beq_eq_false_iff_ne.2 (by omega)
  obtain⟨b,rfl,hz⟩:=hcell (g.pls.length-1) (by omega)
  have z3:=hz 3 _ rfl
  have he:g.next=(g.pls[g.pls.length-1]'(by omega)).en:=by
   unfold Sg.next;rw[List.getLast?_eq_getElem?,List.getElem?_eq_getElem (by omega)]
  rw[he];obtain⟨en,hen⟩:∃ en,(g.pls[g.pls.length-1]'(by omega)).en=en:=⟨_,rfl⟩
  rw[hen] at z3 ⊢
  have hk0:(1:Int)≤(g.pls.length:Int):=by omega
  have hk1:(g.pls.length:Int)-1<(g.pls.length:Int):=by omega
  clear hz he hen h0 hcell;generalize g.pls.length=m at *;go_enter Tryz.func52,Tryz.ntmps52
  go_upto_region 3 with fail;refine wp_region_mono _ (Chg Nil) (by kernel_rfl) (fun _ _ _ h k=>h.trans k (fun _ h=>h.elim)) [[],[0],[1],[2],[],[4],[5],[6],[7],[8],[3,9],[10],[11],[12]] rfl (by kernel_rfl) (Chg.refl _ _).drew ?_
  iterate 3 ((with_reducible apply Walk.eq);case h=>(intro w2 hw2 N hN;simp only[depM];go_simp;(try go_bits);with_reducible exact hN _ (Chg.refl _ _)))
  ((with_reducible apply Walk.eq);case h=>(intro w2 hw2 N hN;have hq:=hw2.cell c3 (fun h=>h);simp only[depM];go_simp;with_reducible exact hN _ (Chg.refl _ _)))
  iterate 3 ((with_reducible apply Walk.eq);case h=>(intro w2 hw2 N hN;simp only[depM];go_simp;(try go_bits);with_reducible exact hN _ (Chg.refl _ _)))
  ((with_reducible apply Walk.eq);case h=>(intro w2 hw2 N hN;have hq:=hw2.cell c3 (fun h=>h);simp only[depM];go_simp;with_reducible exact hN _ (Chg.refl _ _)))
  iterate 4 ((with_reducible apply Walk.eq);case h=>(intro w2 hw2 N hN;simp only[depM];go_simp;(try go_bits);with_reducible exact hN _ (Chg.refl _ _)))
  ((with_reducible apply Walk.eq);case h=>(intro w2 hw2 N hN;have hq:=hw2.cell z3 (fun h=>h);simp only[depM];go_simp;with_reducible exact hN _ (Chg.refl _ _)))
  ((with_reducible apply Walk.eq);case h=>(intro w2 hw2 N hN;simp only[depM];go_simp;(try go_bits);with_reducible exact hN _ (Chg.refl _ _)))
  intro w6 hw6;simp only[List.nil_append,List.cons_append,Fin]
  go_simp;go_wp2_with fail;go_ret;exact⟨rfl,hw6⟩
theorem max_if (u q:Int):(if u<q then q else u)=max u q:=by split<;>omega
theorem meas_two {n i:Nat}(h:i<n):n-(RowKit.intOf (Value.int .i64 ((i:Int)+1))).toNat<n-(RowKit.intOf (Value.int .i64 (i:Int))).toNat:=by
 show n-((i:Int)+1).toNat<n-(i:Int).toNat
 omega
theorem slatest_any {w:World} {s p:Nat} {v:Value} {g:Sg} (h:Sm w s p v g) (hn:g.pls.length≤1000000) :
  Calls Tryz.prog 63 #[.pointer (some ⟨s,0,none⟩)] w fun e w'=>e = .returned (.int .i64 (latestOf g.pls))∧Chg Nil w w':=by
 have c3:=h.c.cell (j:=3) rfl
 obtain⟨a,c,hv,_,_,hcell⟩:=h.o.val
 subst hv;have HCELL:=Lib.hid hcell
 clear h hcell;generalize g.pls=l at *;go_enter Tryz.func63,Tryz.ntmps63
 go_wp2_with fail;clear c3;go_loopw [11,3] (fun ii nn wr=>∃ (wq:World) (i:Nat),wq=wr∧i≤l.length∧ii = .int .i64 i∧nn = .int .i64 (latestOf (l.take i))∧Chg Nil w wr) (fun ii _ _=>l.length-(RowKit.intOf ii).toNat)
 case atStart=>exact⟨_,0,rfl,by omega,rfl,rfl,Chg.refl _ _⟩
 case round=>
  obtain⟨wr,i,rfl,hi,rfl,rfl,hc⟩:=hrel
  have HC:=Lib.hid hc
  clear hc;by_cases hil:i<l.length
  ·have hii:(i:Int)<(l.length:Int):=by omega
   have hi64:wrap64 ((i:Int)+1)=(i:Int)+1:=by unfold wrap64;omega
   obtain⟨b,rfl,hz⟩:=HCELL.out i hil
   have HNX:=Lib.hid (latest_snoc l hil)
   obtain⟨u,hu⟩:∃ u,latestOf (l.take i)=u:=⟨_,rfl⟩
   rw[hu] at HNX;rw[hu];obtain⟨q,hq⟩:∃ q,q=l[i]:=⟨_,rfl⟩
   rw[←hq] at hz HNX
   clear hu hq;obtain⟨qa,qs,qb,qe,qt⟩:=q
   have z0:=HC.out.cell (hz 0 _ rfl) (fun h=>h)
   have z1:=HC.out.cell (hz 1 _ rfl) (fun h=>h)
   have z2:=HC.out.cell (hz 2 _ rfl) (fun h=>h)
   have z3:=HC.out.cell (hz 3 _ rfl) (fun h=>h)
   have z4:=HC.out.cell (hz 4 _ rfl) (fun h=>h)
   rw[Nat.add_zero] at z0;clear hz;have hbx:=Box.new wr [.int .i64 (qa:Nat),.int .i64 (qs:Nat),.int .i64 qb,.int .i64 qe,.int .i64 qt] 157
   have HC2:=Lib.hid (HC.out.trans ((Chg.refl Nil wr).alloc (.cells #[.int .i64 (qa:Nat),.int .i64 (qs:Nat),.int .i64 qb,.int .i64 qe,.int .i64 qt] 157)) (fun _ h=>h.elim))
   go_upto_region 5 with fail;clear z0 z1 z2 z3 z4;have hbx:Box (wr.alloc (.cells #[.int .i64 (qa:Nat),.int .i64 (qs:Nat),.int .i64 qb,.int .i64 qe,.int .i64 qt] 157)) wr.heap.size [.int .i64 (qa:Nat),.int .i64 (qs:Nat),.int .i64 qb,.int .i64 qe,.int .i64 qt] 157:=hbx
   generalize wr.alloc (.cells #[.int .i64 (qa:Nat),.int .i64 (qs:Nat),.int .i64 qb,.int .i64 qe,.int .i64 qt] 157)=w2 at *;generalize wr.heap.size=g2 at *
   have y1:=hbx.cell (j:=4) rfl
   clear hbx;go_wp2_with fail;go_roundw
   case rel=>exact⟨_,i+1,rfl,by omega,by go_num,by rw[HNX.out];exact congrArg _ (max_if u qt),HC2.out⟩
   case measure=>exact meas_two hil
  ·have hii:¬(i:Int)<(l.length:Int):=by omega
   obtain rfl:i=l.length:=by omega
   rw[List.take_length];go_wp2_with fail;go_ret;exact⟨rfl,HC.out⟩
def put (n:Nat):List UInt8:=
 if h:n<128 then [UInt8.ofNat n] else UInt8.ofNat (n % 128+128)::put (n / 128)
termination_by n
decreasing_by omega
theorem put_lo {n:Nat}(h:n<128):put n=[UInt8.ofNat n]:=by rw[put,dif_pos h]
theorem put_hi {n:Nat}(h:128≤n):put n=UInt8.ofNat (n % 128+128)::put (n / 128):=by rw[put,dif_neg (by omega)]
theorem put_ne (n:Nat):put n≠[]:=by
 by_cases h:n<128
 ·rw[put_lo h];simp
 ·rw[put_hi (by omega)];simp
theorem put_length {k n:Nat}(h:n<128 ^ (k+1)):(put n).length≤k+1:=by
 induction k generalizing n with
 | zero=>rw[put_lo (by simpa using h)];simp
 | succ k ih=>
  by_cases h1:n<128
  ·rw[put_lo h1];simp
  ·rw[put_hi (by omega)]
   have:n / 128<128 ^ (k+1):=by rw[Nat.pow_succ] at h;omega
   have:=ih this
   simp
   omega
theorem put_length_pos (n:Nat):0<(put n).length:=by
 cases h:put n with
 | nil=>exact absurd h (put_ne n)
 | cons=>simp
def val:List UInt8→Nat
 | []=>0
 | c::l=>c.toNat % 128+128*val l
theorem val_snoc (l:List UInt8) (c:UInt8):val (l++[c])=val l+c.toNat % 128*128 ^ l.length:=by
 induction l with
 | nil=>simp[val]
 | cons x l ih=>
  simp only[List.cons_append,val,ih,List.length_cons,Nat.pow_succ]
  rw[Nat.mul_add,←Nat.add_assoc];congr 1
  rw[Nat.mul_comm 128,Nat.mul_assoc]
theorem val_lt (l:List UInt8):val l<128 ^ l.length:=by
 induction l with
 | nil=>simp[val]
 | cons x l ih=>
  simp only[val,List.length_cons,Nat.pow_succ]
  have:=Nat.mod_lt x.toNat (show 0<128 by omega)
  omega
def Made:List UInt8→Prop
 | []=>False
 | [c]=>c.toNat<128
 | c::d::l=>128≤c.toNat∧(l=[]→d≠0)∧Made (d::l)
theorem u8_lt' (c:UInt8):c.toNat<256:=c.toNat_lt
theorem toNat_small {n:Nat}(h:n<256):(UInt8.ofNat n).toNat=n:=by rw[UInt8.toNat_ofNat'];omega
theorem val_put (n:Nat):val (put n)=n:=by
 induction n using Nat.strongRecOn with
 | ind n ih=>
  by_cases h:n<128
  ·rw[put_lo h]
   simp only[val,toNat_small (show n<256 by omega)]
   omega
  ·rw[put_hi (by omega)]
   simp only[val,toNat_small (show n % 128+128<256 by omega),ih (n / 128) (by omega)]
   omega
def getAt (l:List UInt8):Nat→Nat→Nat×Nat
 | 0,_=>(0,0)
 | f+1,k=>
  match l[k]? with
  | none=>(0,0)
  | some c=>
   if c.toNat<128 then
    if c=0∧0<k∨1099511627776<val (l.take (k+1)) then (0,0) else (val (l.take (k+1)),k+1)
   else getAt l f (k+1)
def get (l:List UInt8):Nat×Nat:=getAt l 6 0
theorem getAt_none {l:List UInt8}{f k:Nat}(h:l.length≤k):getAt l f k=(0,0):=by
 cases f with
 | zero=>rfl
 | succ f=>rw[getAt,List.getElem?_eq_none h]
theorem getAt_end {l:List UInt8}{f k:Nat}(h:k<l.length)(hc:l[k].toNat<128)(hb:l[k]=0∧0<k∨1099511627776<val (l.take (k+1))):getAt l (f+1) k=(0,0):=by
 rw[getAt,List.getElem?_eq_getElem h]
 simp only
 rw[if_pos hc,if_pos hb]
theorem getAt_ok {l:List UInt8}{f k:Nat}(h:k<l.length)(hc:l[k].toNat<128)(hb:¬(l[k]=0∧0<k∨1099511627776<val (l.take (k+1)))):getAt l (f+1) k=(val (l.take (k+1)),k+1):=by
 rw[getAt,List.getElem?_eq_getElem h]
 simp only
 rw[if_pos hc,if_neg hb]
theorem getAt_on {l:List UInt8}{f k:Nat}(h:k<l.length)(hc:¬l[k].toNat<128):getAt l (f+1) k=getAt l f (k+1):=by
 rw[getAt,List.getElem?_eq_getElem h]
 simp only
 rw[if_neg hc]
theorem getAt_bounds (l:List UInt8):∀ f k,(getAt l f k).1≤1099511627776∧((getAt l f k).2=0∧(getAt l f k).1=0∨k<(getAt l f k).2∧(getAt l f k).2≤l.length∧(getAt l f k).2≤k+f)
 | 0,k=>by simp[getAt]
 | f+1,k=>by
  by_cases h:k<l.length
  ·by_cases hc:l[k].toNat<128
   ·by_cases hb:l[k]=0∧0<k∨1099511627776<val (l.take (k+1))
    ·rw[getAt_end h hc hb];simp
    ·rw[getAt_ok h hc hb]
     exact⟨by simp only;omega,.inr ⟨by simp,by simp only;omega,by simp only;omega⟩⟩
   ·rw[getAt_on h hc]
    have:=getAt_bounds l f (k+1)
    omega
  ·rw[getAt_none (by omega)];simp
theorem get_le (l:List UInt8):(get l).1≤1099511627776:=(getAt_bounds l 6 0).1
theorem get_size (l:List UInt8):(get l).2≤l.length∧(get l).2≤6:=by have:=(getAt_bounds l 6 0).2;unfold get;omega
theorem getAt_of_made:∀ (q:List UInt8) (l more:List UInt8) (f:Nat),l≠[]→(∀ x∈q,128≤x.toNat)→Made l→q.length+l.length≤q.length+f→(0<q.length→l≠[0])→val (q++l)≤1099511627776→
  getAt (q++l++more) f q.length=(val (q++l),(q++l).length):=by
 intro q l;induction l generalizing q with
 | nil=>intro _ _ h;exact absurd rfl h
 | cons c l ih=>
  intro more f _ hhi hm hf hz hv;have hlt:q.length<(q++c::l++more).length:=by simp
  have hget:(q++c::l++more)[q.length]=c:=by simp
  cases f with
  | zero=>simp at hf;omega
  | succ f=>
   cases l with
   | nil=>
    simp only[Made] at hm
    have e:(q++[c]++more).take (q.length+1)=q++[c]:=by
     rw[List.take_append_of_le_length (by simp)]
     rw[List.take_of_length_le (by simp)]
    rw[getAt_ok hlt (by rw[hget];exact hm)]
    ·rw[e];simp
    ·rw[hget,e];intro h;rcases h with ⟨rfl,h2⟩ | h
     ·exact hz h2 rfl
     ·omega
   | cons d l=>
    obtain⟨h1,h2,h3⟩:=hm
    rw[getAt_on hlt (by rw[hget];omega)]
    have e:q++c::d::l=(q++[c])++d::l:=by simp
    have el:q.length+1=(q++[c]).length:=by simp
    rw[e,el];refine ih (q++[c]) more f (by simp) ?_ h3 (by simp at hf ⊢;omega) ?_ (by rw[←e];exact hv)
    ·intro x hx;rcases List.mem_append.1 hx with hx | hx
     ·exact hhi x hx
     ·simp only[List.mem_singleton] at hx
      subst hx;exact h1
    ·intro _ hd;simp only[List.cons.injEq] at hd
     exact h2 hd.2 hd.1
theorem made_put (n:Nat):Made (put n):=by
 induction n using Nat.strongRecOn with
 | ind n ih=>
  by_cases h:n<128
  ·rw[put_lo h]
   simp only[Made,toNat_small (show n<256 by omega)]
   exact h
  ·have ih:=ih (n / 128) (by omega)
   rw[put_hi (by omega)]
   cases hp:put (n / 128) with
   | nil=>exact absurd hp (put_ne _)
   | cons d l=>
    refine⟨by rw[toNat_small (by omega)];omega,fun hl hd=>?_,by rw[←hp];exact ih⟩
    subst hl;subst hd;have hv:=val_put (n / 128)
    rw[hp] at hv;simp[val] at hv
    omega
theorem get_of_put (n:Nat) (more:List UInt8)(h:n≤1099511627776):get (put n++more)=(n,(put n).length):=by
 have hl:(put n).length≤6:=put_length (k:=5) (by omega)
 have:=getAt_of_made [] (put n) more 6 (put_ne n) (by simp) (made_put n) (by simpa using hl) (by simp) (by simpa [val_put] using h)
 simpa [get,val_put] using this
structure Rec where
 off:Int
 time:Int
 keyed:Bool
 key:ByteArray
 gone:Bool
 value:ByteArray
def Rec.cells (r:Rec):List Value:=[.int .i64 r.off,.int .i64 r.time,.bool r.keyed,.string r.key,.bool r.gone,.string r.value]
structure Rec.Ok (r:Rec):Prop where
 off:-9223372036854775808≤r.off∧r.off≤9223372036854775807
 time:-9223372036854775808≤r.time∧r.time≤9223372036854775807
 key:r.key.size≤maxLen
 value:r.value.size≤maxLen
def RecsAt (w:World) (a:Option Addr) (rs:List Rec):Prop:=
 ∀ i (h:i<rs.length),∃ b off,a=some ⟨b,off,none⟩∧∀ j u,rs[i].cells[j]? = some u→w.cell? ⟨b,off+i*6+j,none⟩=some u
theorem RecsAt.chg {S:Nat→Prop}{w w':World}(h:Chg S w w') {a:Option Addr}{rs:List Rec}(hb:RecsAt w a rs)(hn:∀ x,a=some x→¬S x.block):RecsAt w' a rs:=by
 intro i hi;obtain⟨b,off,ha,hc⟩:=hb i hi
 exact⟨b,off,ha,fun j u hj=>h.cell (hc j u hj) (show ¬S b from hn ⟨b,off,none⟩ ha)⟩
def BoxAt (w:World) (g:Nat) (cs:List Value):Prop:=∀ j u,cs[j]? = some u→w.cell? ⟨g,j,none⟩=some u
theorem BoxAt.new (w:World) (cs:List Value) (t:TypeId):BoxAt (w.alloc (.cells cs.toArray t)) w.heap.size cs:=by
 intro j u hj;rw[cell_of_row _ w.heap.size j cs.toArray t (0,0) (heap_alloc_new w _)]
 simpa using hj
theorem BoxAt.chg {S:Nat→Prop}{w w':World}{g:Nat}{cs:List Value}(h:BoxAt w g cs)(hg:Chg S w w')(hn:¬S g):BoxAt w' g cs:=
 fun j u hj=>hg.cell (h j u hj) hn
def badArg (last en:Int) (r:Rec):Bool:=decide (r.off≤last)||decide (en≤r.off)||(!r.keyed && !(r.key.toList.isEmpty))||(r.gone && !(r.value.toList.isEmpty))
def badLen (r:Rec):Bool:=decide (60<r.key.size)||decide (500<r.value.size)
def badTime (r:Rec):Bool:=decide (r.time<0)||decide (1099511627776<r.time)
def checkRecs (en:Int):Int→List Rec→Nat
 | _,[]=>0
 | last,r::rs=>if badArg last en r=true then 1 else if badLen r=true then 4 else if badTime r=true then 2 else checkRecs en r.off rs
def checkB (base en:Int) (rs:List Rec):Nat:=
 if base<0∨1099511627776<en then 2 else if en≤base then 1 else if 50<rs.length∨50<en-base then 4 else checkRecs en (base-1) rs
def errV (t:TypeId) (k:Nat):Value:=if k=0 then .nilIface else .iface t (.int .i64 (k:Int))
end Go.Proofs.YtdjmifaidgbbaaaGreatDoor
