/-
  Names: which texts may be names: plain data. A text is all of some bytes just if nothing is left when these are trimmed.
-/
import Derived.Test.YtobegmcbfgnpnaaGreatDoorU05
import Derived.WalkLawsBesides
import Derived.WalkSpells
import Derived.ProofKit
set_option linter.unusedVariables false
set_option linter.unusedSimpArgs false
set_option maxHeartbeats 0
set_option maxRecDepth 200000
namespace Go.Proofs.YtobegmcbfgnpnaaGreatDoor
def cutDisk:List UInt8:=[97,98,99,100,101,102,103,104,105,106,107,108,109,110,111,112,113,114,115,116,117,118,119,120,121,122,48,49,50,51,52,53,54,55,56,57,45,46,47]
def cutTopic:List UInt8:=[97,98,99,100,101,102,103,104,105,106,107,108,109,110,111,112,113,114,115,116,117,118,119,120,121,122,48,49,50,51,52,53,54,55,56,57]
def nameOk (most:Nat) (cs:List UInt8) (l:List UInt8):Bool:=!l.isEmpty&&decide (l.length≤most)&&l.all (cs.contains ·)
theorem dropWhile_nil {p:UInt8→Bool}:∀ {l:List UInt8},l.dropWhile p=[]↔l.all p=true
 | []=>by simp
 | a::l=>by
  rw[List.dropWhile_cons];by_cases h:p a=true
  ·rw[if_pos h,dropWhile_nil,List.all_cons,h,Bool.true_and]
  ·rw[if_neg h,List.all_cons]
   simp[h]
theorem trim_nil {l cs:List UInt8}:Lib.trimS l cs=[]↔l.all (cs.contains ·)=true:=by
 unfold Lib.trimS Lib.trimLeftS Lib.trimRightS;rw[dropWhile_nil,List.all_reverse];constructor
 ·intro h;have hsplit:=List.takeWhile_append_dropWhile (p:=fun b=>cs.contains b) (l:=l.reverse)
  have h2:l.reverse.all (cs.contains ·)=true:=by
   rw[←hsplit,List.all_append,h,Bool.and_true,List.all_eq_true];intro x hx;exact List.all_eq_true.1 (List.all_takeWhile) x hx
  rwa [List.all_reverse] at h2
 ·intro h;rw[List.all_eq_true] at h ⊢
  intro x hx;exact h x (List.mem_reverse.1 ((List.dropWhile_sublist _).mem hx))
theorem indexByte_neg:∀ {l:List UInt8}{c:UInt8},Lib.indexByte l c<0↔l.contains c=false
 | [],c=>by simp[Lib.indexByte]
 | b::l,c=>by
  have ih:=indexByte_neg (l:=l) (c:=c)
  have hge:=Lib.indexByte_ge l c
  unfold Lib.indexByte;by_cases h:(b==c)=true
  ·have hbc:c=b:=(beq_iff_eq.1 h).symm
   rw[if_pos h]
   subst hbc;simp
  ·have hcb:(c==b)=false:=by
    rw[beq_eq_false_iff_ne];intro e;exact h (by rw[e];simp)
   rw[if_neg h,List.contains_cons,hcb,Bool.false_or,←ih]
   by_cases h2:(Lib.indexByte l c == -1)=true
   ·rw[if_pos h2]
    have:=beq_iff_eq.1 h2
    omega
   ·rw[if_neg h2]
    have:Lib.indexByte l c≠-1:=fun e=>h2 (by rw[e];rfl)
    omega
open Go.RowKit Go.Shelf Go.Lib
theorem list_toList (s:ByteArray):s.toList=s.data.toList:=ByteArray.toList_eq s
theorem list_size (s:ByteArray):s.data.toList.length=s.size:=by rw[Array.length_toList];rfl
theorem disk_any (s:ByteArray) (w:World) (hs:s.size≤9223372036854775807) :
  Calls Tryz.prog 55 #[.string s] w fun e w'=>e = .returned (.bool (nameOk 40 cutDisk s.data.toList))∧Below w.heap.size w w':=by
 have hcon:=Any.strings_Trim_laid Tryz.lays160 (by kernel_rfl) s ⟨cutDisk.toArray⟩ w hs (by decide) (ascii_of_all (by decide))
 change Calls Tryz.prog 108 _ _ (fun e w'=>e = .returned (.string ⟨(Lib.trimS s.data.toList cutDisk).toArray⟩)∧Below w.heap.size w w') at hcon
 have hsz:=list_size s
 have hB0:=Below.refl w.heap.size w
 go_enter Tryz.func55,Tryz.ntmps55
 go_wp2_with (go_at_call 108;refine hcon.mono ?_;rintro e w' ⟨rfl,hB⟩)
 ·have h0:s.toList=[]:=by assumption
  go_ret;refine⟨congrArg (fun b=>Ending.returned (Value.bool b)) ?_,hB0⟩
  rw[list_toList] at h0;rw[h0];rfl
 ·have h0:¬s.toList=[]:=by assumption
  have h1:(s.size:Int)≤40:=by assumption
  go_ret;refine⟨congrArg (fun b=>Ending.returned (Value.bool b)) ?_,hB⟩
  rw[list_toList];have e:(trimS s.data.toList cutDisk).isEmpty=s.data.toList.all (cutDisk.contains ·):=by
   rw[Bool.eq_iff_iff,List.isEmpty_iff,trim_nil]
  rw[e];unfold nameOk;rw[decide_eq_true (show s.data.toList.length≤40 by omega),Bool.and_true]
 ·have h1:(40:Int)<(s.size:Int):=by assumption
  go_ret;refine⟨congrArg (fun b=>Ending.returned (Value.bool b)) ?_,hB0⟩
  unfold nameOk;rw[decide_eq_false (show ¬s.data.toList.length≤40 by omega),Bool.and_false,Bool.false_and]
theorem topic_any (s:ByteArray) (w:World) (hs:s.size≤9223372036854775807) :
  Calls Tryz.prog 53 #[.string s] w fun e w'=>e = .returned (.bool (nameOk 10 cutTopic s.data.toList))∧Below w.heap.size w w':=by
 have hcon:=Any.strings_Trim_laid Tryz.lays160 (by kernel_rfl) s ⟨cutTopic.toArray⟩ w hs (by decide) (ascii_of_all (by decide))
 change Calls Tryz.prog 108 _ _ (fun e w'=>e = .returned (.string ⟨(Lib.trimS s.data.toList cutTopic).toArray⟩)∧Below w.heap.size w w') at hcon
 have hsz:=list_size s
 have hB0:=Below.refl w.heap.size w
 go_enter Tryz.func53,Tryz.ntmps53
 go_wp2_with (go_at_call 108;refine hcon.mono ?_;rintro e w' ⟨rfl,hB⟩)
 ·have h0:s.toList=[]:=by assumption
  go_ret;refine⟨congrArg (fun b=>Ending.returned (Value.bool b)) ?_,hB0⟩
  rw[list_toList] at h0;rw[h0];rfl
 ·have h0:¬s.toList=[]:=by assumption
  have h1:(s.size:Int)≤10:=by assumption
  go_ret;refine⟨congrArg (fun b=>Ending.returned (Value.bool b)) ?_,hB⟩
  rw[list_toList];have e:(trimS s.data.toList cutTopic).isEmpty=s.data.toList.all (cutTopic.contains ·):=by
   rw[Bool.eq_iff_iff,List.isEmpty_iff,trim_nil]
  rw[e];unfold nameOk;rw[decide_eq_true (show s.data.toList.length≤10 by omega),Bool.and_true]
 ·have h1:(10:Int)<(s.size:Int):=by assumption
  go_ret;refine⟨congrArg (fun b=>Ending.returned (Value.bool b)) ?_,hB0⟩
  unfold nameOk;rw[decide_eq_false (show ¬s.data.toList.length≤10 by omega),Bool.and_false,Bool.false_and]
def bval (c:UInt8):Value:=.int .u8 (c.toNat:Int)
def BytesAt (w:World) (a:Option Addr) (l:List UInt8):Prop:=
 ∀ i (h:i<l.length),∃ b off,a=some ⟨b,off,none⟩∧w.cell? ⟨b,off+i,none⟩=some (bval l[i])
theorem BytesAt.kept {w w':World}{a:Option Addr}{l:List UInt8}(h:BytesAt w a l)
  (hk:∀ b off i v,a=some ⟨b,off,none⟩→w.cell? ⟨b,off+i,none⟩=some v→w'.cell? ⟨b,off+i,none⟩=some v):BytesAt w' a l:=by
 intro i hi;obtain⟨b,off,ha,hc⟩:=h i hi
 exact⟨b,off,ha,hk b off i _ ha hc⟩
theorem ret_int {k:IntKind}{a b:Int}(h:a=b):Ending.returned (.int k a) = .returned (.int k b):=by rw[h]
theorem take_snoc {α:Type} (l:List α) (k:Nat)(h:k<l.length):l.take (k+1)=l.take k++[l[k]]:=by
 rw[List.take_succ_eq_append_getElem h]
abbrev Nm:=List UInt8
structure Fl where
 bytes:List UInt8
 safe:Nat
structure Dk where
 fs:List (Nm×Fl)
 room:Nat
 left:Int
def Dk.names (d:Dk):List Nm:=d.fs.map (·.1)
def Dk.find (d:Dk) (x:Nm):Option Fl:=d.fs.lookup x
def Dk.used (d:Dk):Nat:=(d.fs.map fun p=>p.2.bytes.length).sum
def Dk.size (d:Dk) (x:Nm):Int:=match d.find x with | some f=>f.bytes.length | none=>-1
def readOf (l:List UInt8) (frm most:Int):List UInt8:=if frm<0∨most≤0 then [] else (l.drop frm.toNat).take most.toNat
def Dk.read (d:Dk) (x:Nm) (frm most:Int):List UInt8:=match d.find x with | some f=>readOf f.bytes frm most | none=>[]
def didB (l:Int):Bool:=decide (l≠0)
def stepL (l:Int):Int:=if 0<l then l-1 else l
def Dk.does (d:Dk):Bool:=didB d.left
def Dk.step (d:Dk):Dk:={ d with left:=stepL d.left }
def Dk.turn (d:Dk) (x:Nm) (f:Fl):Dk:={ d with fs:=d.fs.map fun p=>if p.1=x then (p.1,f) else p }
def Dk.del (d:Dk) (x:Nm):Dk:={ d with fs:=d.fs.filter fun p=>decide (p.1≠x) }
def Dk.put (d:Dk) (x:Nm) (f:Fl):Dk:={ d with fs:=(d.fs.filter fun p=>decide (p.1≠x))++[(x,f)] }
def Dk.fresh (room:Nat):Dk:={ fs:=[],room:=room,left:=-1 }
def dkName (x:Nm):Bool:=nameOk 40 cutDisk x
def Dk.make (d:Dk) (x:Nm):Nat×Dk:=
 if d.does=false then (14,d) else
  if dkName x=false then (5,d.step) else
   if (d.find x).isSome=true then (9,d.step) else
    if d.fs.length=200 then (4,d.step) else (0,d.step.put x ⟨[],0⟩)
def Dk.at (d:Dk) (x:Nm) (g:Fl→Nat×(Dk→Dk)):Nat×Dk:=
 if d.does=false then (14,d) else
  match d.find x with
  | none=>(7,d.step)
  | some f=>((g f).1,(g f).2 d.step)
def Dk.add (d:Dk) (x:Nm) (b:List UInt8):Nat×Dk:=
 d.at x fun f=>if d.room<d.used+b.length then (12,id) else (0,fun d=>d.turn x ⟨f.bytes++b,f.safe⟩)
def Dk.cut (d:Dk) (x:Nm) (n:Int):Nat×Dk:=
 d.at x fun f=>if n<0∨(f.bytes.length:Int)<n then (2,id) else (0,fun d=>d.turn x ⟨f.bytes.take n.toNat,min f.safe n.toNat⟩)
def Dk.sync (d:Dk) (x:Nm):Nat×Dk:=
 d.at x fun f=>(0,fun d=>d.turn x ⟨f.bytes,f.bytes.length⟩)
def Dk.remove (d:Dk) (x:Nm):Nat×Dk:=
 d.at x fun _=>(0,fun d=>d.del x)
def sortN (l:List Nm):List Nm:=l.mergeSort fun x y=>decide (x≤y)
def Dk.list (d:Dk) (begin:Nm):List Nm:=sortN (d.names.filter fun x=>begin.isPrefixOf x)
structure Dk.Ok (d:Dk):Prop where
 nodup:d.names.Nodup
 safe:∀ p∈d.fs,p.2.safe≤p.2.bytes.length
 fits:d.used≤d.room
 room:d.room≤1048576
 few:d.fs.length≤200
 left:-1≤d.left∧d.left≤9223372036854775807
 short:∀ x∈d.names,x.length≤40
theorem dkName_len {x:Nm}(h:dkName x=true):x.length≤40:=by
 unfold dkName nameOk at h;simp only[Bool.and_eq_true,decide_eq_true_eq] at h
 exact h.1.2
theorem stepL_ok {l:Int}(h:-1≤l∧l≤9223372036854775807):-1≤stepL l∧stepL l≤9223372036854775807:=by
 unfold stepL;split<;>omega
theorem Dk.Ok.step {d:Dk}(h:d.Ok):d.step.Ok:=⟨h.nodup,h.safe,h.fits,h.room,h.few,stepL_ok h.left,h.short⟩
theorem find_none {d:Dk}{x:Nm}(h:d.find x=none):x ∉ d.names:=by
 unfold Dk.find at h;intro hx;obtain⟨q,hq,rfl⟩:=List.mem_map.1 hx
 rw[List.lookup_eq_none_iff] at h;have:=h q hq
 simp at this
theorem sum_sub:∀ {a b:List Nat},a.Sublist b→a.sum≤b.sum
 | _,_,.slnil=>Nat.le_refl _
 | _,_,.cons x h=>by have:=sum_sub h;simp;omega
 | _,_,.cons_cons x h=>by have:=sum_sub h;simp;omega
theorem used_filter (d:Dk) (x:Nm):(d.del x).used≤d.used:=by
 unfold Dk.used Dk.del;exact sum_sub (List.Sublist.map _ List.filter_sublist)
theorem names_filter {d:Dk}{x:Nm}(h:x ∉ d.names):(d.fs.filter fun p=>decide (p.1≠x))=d.fs:=by
 rw[List.filter_eq_self];intro q hq;simp
 intro e;exact h (List.mem_map.2 ⟨q,hq,e⟩)
theorem Dk.Ok.make {d:Dk}(h:d.Ok) (x:Nm):(d.make x).2.Ok:=by
 unfold Dk.make;split
 ·exact h
 ·split
  ·exact h.step
  ·rename_i hn
   split
   ·exact h.step
   ·rename_i hf
    split
    ·exact h.step
    ·rename_i hl
     have hf0:d.find x=none:=by
      cases hq:d.find x with
      | none=>rfl
      | some _=>rw[hq] at hf;exact absurd rfl hf
     have hnot:=find_none hf0
     have e:d.step.put x ⟨[],0⟩ = { d.step with fs:=d.fs++[(x,⟨[],0⟩)] }:=by
      unfold Dk.put;rw[show d.step.fs=d.fs from rfl,names_filter hnot]
     rw[e];refine⟨?_,?_,?_,h.room,?_,stepL_ok h.left,?_⟩
     ·show ((d.fs++[(x,(⟨[],0⟩:Fl))]).map (·.1)).Nodup
      rw[List.map_append];refine List.nodup_append.2 ⟨h.nodup,by simp,fun y hy z hz e=>?_⟩
      simp at hz
      exact hnot (by rw[←hz,←e];exact hy)
     ·intro p hp;rcases List.mem_append.1 hp with hp | hp
      ·exact h.safe p hp
      ·simp at hp;subst hp;exact Nat.le_refl _
     ·show ((d.fs++[(x,(⟨[],0⟩:Fl))]).map _).sum≤d.room
      rw[List.map_append,List.sum_append];have:=h.fits
      unfold Dk.used at this;simpa using this
     ·show (d.fs++[(x,(⟨[],0⟩:Fl))]).length≤200
      rw[List.length_append];have:=h.few
      simp
      omega
     ·intro y hy;have hy:y∈(d.fs++[(x,(⟨[],0⟩:Fl))]).map (·.1):=hy
      rw[List.map_append] at hy;rcases List.mem_append.1 hy with hy | hy
      ·exact h.short y hy
      ·simp at hy;subst hy;cases hd:dkName y with
       | true=>exact dkName_len hd
       | false=>exact absurd hd hn
end Go.Proofs.YtobegmcbfgnpnaaGreatDoor
