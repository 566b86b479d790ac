/-
  A segment in memory: Latest.
-/
import Derived.Test.YtobegmcbfgnpnaaGreatDoorU13
set_option linter.unusedVariables false
set_option linter.unusedSimpArgs false
set_option maxHeartbeats 0
set_option maxRecDepth 200000
namespace Go.Proofs.YtobegmcbfgnpnaaGreatDoor
open Go.RowKit
theorem max_if (u q:Int):(if u<q then q else u)=max u q:=by split<;>omega
theorem meas_two {n i:Nat}(h:i<n):n-(RowKit.intOf (Value.int .i64 ((i:Int)+1))).toNat<n-(RowKit.intOf (Value.int .i64 (i:Int))).toNat:=by
 show n-((i:Int)+1).toNat<n-(i:Int).toNat
 omega
def put (n:Nat):List UInt8:=
 if h:n<128 then [UInt8.ofNat n] else UInt8.ofNat (n % 128+128)::put (n / 128)
termination_by n
decreasing_by omega
theorem put_lo {n:Nat}(h:n<128):put n=[UInt8.ofNat n]:=by rw[put,dif_pos h]
theorem put_hi {n:Nat}(h:128≤n):put n=UInt8.ofNat (n % 128+128)::put (n / 128):=by rw[put,dif_neg (by omega)]
theorem put_ne (n:Nat):put n≠[]:=by
 by_cases h:n<128
 ·rw[put_lo h];simp
 ·rw[put_hi (by omega)];simp
theorem put_length {k n:Nat}(h:n<128 ^ (k+1)):(put n).length≤k+1:=by
 induction k generalizing n with
 | zero=>rw[put_lo (by simpa using h)];simp
 | succ k ih=>
  by_cases h1:n<128
  ·rw[put_lo h1];simp
  ·rw[put_hi (by omega)]
   have:n / 128<128 ^ (k+1):=by rw[Nat.pow_succ] at h;omega
   have:=ih this
   simp
   omega
theorem put_length_pos (n:Nat):0<(put n).length:=by
 cases h:put n with
 | nil=>exact absurd h (put_ne n)
 | cons=>simp
def val:List UInt8→Nat
 | []=>0
 | c::l=>c.toNat % 128+128*val l
theorem val_snoc (l:List UInt8) (c:UInt8):val (l++[c])=val l+c.toNat % 128*128 ^ l.length:=by
 induction l with
 | nil=>simp[val]
 | cons x l ih=>
  simp only[List.cons_append,val,ih,List.length_cons,Nat.pow_succ]
  rw[Nat.mul_add,←Nat.add_assoc];congr 1
  rw[Nat.mul_comm 128,Nat.mul_assoc]
theorem val_lt (l:List UInt8):val l<128 ^ l.length:=by
 induction l with
 | nil=>simp[val]
 | cons x l ih=>
  simp only[val,List.length_cons,Nat.pow_succ]
  have:=Nat.mod_lt x.toNat (show 0<128 by omega)
  omega
def Made:List UInt8→Prop
 | []=>False
 | [c]=>c.toNat<128
 | c::d::l=>128≤c.toNat∧(l=[]→d≠0)∧Made (d::l)
theorem u8_lt' (c:UInt8):c.toNat<256:=c.toNat_lt
theorem toNat_small {n:Nat}(h:n<256):(UInt8.ofNat n).toNat=n:=by rw[UInt8.toNat_ofNat'];omega
theorem val_put (n:Nat):val (put n)=n:=by
 induction n using Nat.strongRecOn with
 | ind n ih=>
  by_cases h:n<128
  ·rw[put_lo h]
   simp only[val,toNat_small (show n<256 by omega)]
   omega
  ·rw[put_hi (by omega)]
   simp only[val,toNat_small (show n % 128+128<256 by omega),ih (n / 128) (by omega)]
   omega
def getAt (l:List UInt8):Nat→Nat→Nat×Nat
 | 0,_=>(0,0)
 | f+1,k=>
  match l[k]? with
  | none=>(0,0)
  | some c=>
   if c.toNat<128 then
    if c=0∧0<k∨1099511627776<val (l.take (k+1)) then (0,0) else (val (l.take (k+1)),k+1)
   else getAt l f (k+1)
def get (l:List UInt8):Nat×Nat:=getAt l 6 0
theorem getAt_none {l:List UInt8}{f k:Nat}(h:l.length≤k):getAt l f k=(0,0):=by
 cases f with
 | zero=>rfl
 | succ f=>rw[getAt,List.getElem?_eq_none h]
theorem getAt_end {l:List UInt8}{f k:Nat}(h:k<l.length)(hc:l[k].toNat<128)(hb:l[k]=0∧0<k∨1099511627776<val (l.take (k+1))):getAt l (f+1) k=(0,0):=by
 rw[getAt,List.getElem?_eq_getElem h]
 simp only
 rw[if_pos hc,if_pos hb]
theorem getAt_ok {l:List UInt8}{f k:Nat}(h:k<l.length)(hc:l[k].toNat<128)(hb:¬(l[k]=0∧0<k∨1099511627776<val (l.take (k+1)))):getAt l (f+1) k=(val (l.take (k+1)),k+1):=by
 rw[getAt,List.getElem?_eq_getElem h]
 simp only
 rw[if_pos hc,if_neg hb]
theorem getAt_on {l:List UInt8}{f k:Nat}(h:k<l.length)(hc:¬l[k].toNat<128):getAt l (f+1) k=getAt l f (k+1):=by
 rw[getAt,List.getElem?_eq_getElem h]
 simp only
 rw[if_neg hc]
theorem getAt_bounds (l:List UInt8):∀ f k,(getAt l f k).1≤1099511627776∧((getAt l f k).2=0∧(getAt l f k).1=0∨k<(getAt l f k).2∧(getAt l f k).2≤l.length∧(getAt l f k).2≤k+f)
 | 0,k=>by simp[getAt]
 | f+1,k=>by
  by_cases h:k<l.length
  ·by_cases hc:l[k].toNat<128
   ·by_cases hb:l[k]=0∧0<k∨1099511627776<val (l.take (k+1))
    ·rw[getAt_end h hc hb];simp
    ·rw[getAt_ok h hc hb]
     exact⟨by simp only;omega,.inr ⟨by simp,by simp only;omega,by simp only;omega⟩⟩
   ·rw[getAt_on h hc]
    have:=getAt_bounds l f (k+1)
    omega
  ·rw[getAt_none (by omega)];simp
theorem get_le (l:List UInt8):(get l).1≤1099511627776:=(getAt_bounds l 6 0).1
theorem get_size (l:List UInt8):(get l).2≤l.length∧(get l).2≤6:=by have:=(getAt_bounds l 6 0).2;unfold get;omega
theorem getAt_of_made:∀ (q:List UInt8) (l more:List UInt8) (f:Nat),l≠[]→(∀ x∈q,128≤x.toNat)→Made l→q.length+l.length≤q.length+f→(0<q.length→l≠[0])→val (q++l)≤1099511627776→
  getAt (q++l++more) f q.length=(val (q++l),(q++l).length):=by
 intro q l;induction l generalizing q with
 | nil=>intro _ _ h;exact absurd rfl h
 | cons c l ih=>
  intro more f _ hhi hm hf hz hv;have hlt:q.length<(q++c::l++more).length:=by simp
  have hget:(q++c::l++more)[q.length]=c:=by simp
  cases f with
  | zero=>simp at hf;omega
  | succ f=>
   cases l with
   | nil=>
    simp only[Made] at hm
    have e:(q++[c]++more).take (q.length+1)=q++[c]:=by
     rw[List.take_append_of_le_length (by simp)]
     rw[List.take_of_length_le (by simp)]
    rw[getAt_ok hlt (by rw[hget];exact hm)]
    ·rw[e];simp
    ·rw[hget,e];intro h;rcases h with ⟨rfl,h2⟩ | h
     ·exact hz h2 rfl
     ·omega
   | cons d l=>
    obtain⟨h1,h2,h3⟩:=hm
    rw[getAt_on hlt (by rw[hget];omega)]
    have e:q++c::d::l=(q++[c])++d::l:=by simp
    have el:q.length+1=(q++[c]).length:=by simp
    rw[e,el];refine ih (q++[c]) more f (by simp) ?_ h3 (by simp at hf ⊢;omega) ?_ (by rw[←e];exact hv)
    ·intro x hx;rcases List.mem_append.1 hx with hx | hx
     ·exact hhi x hx
     ·simp only[List.mem_singleton] at hx
      subst hx;exact h1
    ·intro _ hd;simp only[List.cons.injEq] at hd
     exact h2 hd.2 hd.1
theorem made_put (n:Nat):Made (put n):=by
 induction n using Nat.strongRecOn with
 | ind n ih=>
  by_cases h:n<128
  ·rw[put_lo h]
   simp only[Made,toNat_small (show n<256 by omega)]
   exact h
  ·have ih:=ih (n / 128) (by omega)
   rw[put_hi (by omega)]
   cases hp:put (n / 128) with
   | nil=>exact absurd hp (put_ne _)
   | cons d l=>
    refine⟨by rw[toNat_small (by omega)];omega,fun hl hd=>?_,by rw[←hp];exact ih⟩
    subst hl;subst hd;have hv:=val_put (n / 128)
    rw[hp] at hv;simp[val] at hv
    omega
theorem get_of_put (n:Nat) (more:List UInt8)(h:n≤1099511627776):get (put n++more)=(n,(put n).length):=by
 have hl:(put n).length≤6:=put_length (k:=5) (by omega)
 have:=getAt_of_made [] (put n) more 6 (put_ne n) (by simp) (made_put n) (by simpa using hl) (by simp) (by simpa [val_put] using h)
 simpa [get,val_put] using this
structure Rec where
 off:Int
 time:Int
 keyed:Bool
 key:ByteArray
 gone:Bool
 value:ByteArray
def Rec.cells (r:Rec):List Value:=[.int .i64 r.off,.int .i64 r.time,.bool r.keyed,.string r.key,.bool r.gone,.string r.value]
structure Rec.Ok (r:Rec):Prop where
 off:-9223372036854775808≤r.off∧r.off≤9223372036854775807
 time:-9223372036854775808≤r.time∧r.time≤9223372036854775807
 key:r.key.size≤maxLen
 value:r.value.size≤maxLen
def RecsAt (w:World) (a:Option Addr) (rs:List Rec):Prop:=
 ∀ i (h:i<rs.length),∃ b off,a=some ⟨b,off,none⟩∧∀ j u,rs[i].cells[j]? = some u→w.cell? ⟨b,off+i*6+j,none⟩=some u
theorem RecsAt.chg {S:Nat→Prop}{w w':World}(h:Chg S w w') {a:Option Addr}{rs:List Rec}(hb:RecsAt w a rs)(hn:∀ x,a=some x→¬S x.block):RecsAt w' a rs:=by
 intro i hi;obtain⟨b,off,ha,hc⟩:=hb i hi
 exact⟨b,off,ha,fun j u hj=>h.cell (hc j u hj) (show ¬S b from hn ⟨b,off,none⟩ ha)⟩
def BoxAt (w:World) (g:Nat) (cs:List Value):Prop:=∀ j u,cs[j]? = some u→w.cell? ⟨g,j,none⟩=some u
theorem BoxAt.new (w:World) (cs:List Value) (t:TypeId):BoxAt (w.alloc (.cells cs.toArray t)) w.heap.size cs:=by
 intro j u hj;rw[cell_of_row _ w.heap.size j cs.toArray t (0,0) (heap_alloc_new w _)]
 simpa using hj
def badArg (last en:Int) (r:Rec):Bool:=decide (r.off≤last)||decide (en≤r.off)||(!r.keyed && !(r.key.toList.isEmpty))||(r.gone && !(r.value.toList.isEmpty))
def badLen (r:Rec):Bool:=decide (60<r.key.size)||decide (500<r.value.size)
def badTime (r:Rec):Bool:=decide (r.time<0)||decide (1099511627776<r.time)
def checkRecs (en:Int):Int→List Rec→Nat
 | _,[]=>0
 | last,r::rs=>if badArg last en r=true then 1 else if badLen r=true then 4 else if badTime r=true then 2 else checkRecs en r.off rs
def checkB (base en:Int) (rs:List Rec):Nat:=
 if base<0∨1099511627776<en then 2 else if en≤base then 1 else if 50<rs.length∨50<en-base then 4 else checkRecs en (base-1) rs
def errV (t:TypeId) (k:Nat):Value:=if k=0 then .nilIface else .iface t (.int .i64 (k:Int))
end Go.Proofs.YtobegmcbfgnpnaaGreatDoor
