/-
  api.Tell, plain.Bare and the law's 'bare' at nil and at an Errno.
-/
import Derived.Test.YtobegmcbfgnpnaaGreatDoorU30
import Derived.Test.YtobegmcbfgnpnaaGreatDoorU29
set_option linter.unusedVariables false
set_option linter.unusedSimpArgs false
set_option maxHeartbeats 0
set_option maxRecDepth 200000
namespace Go.Proofs.YtobegmcbfgnpnaaGreatDoor
open Go.RowKit Go.Extern.Stop Go.Stop Go.Extern
theorem tell_nil (w:World):Calls Tryz.prog 18 #[.nilIface] w fun e w'=>e = .returned (.int .i64 0)∧w=w':=by
 go_enter Tryz.func18,Tryz.ntmps18
 go_wp2
 go_ret;exact⟨rfl,rfl⟩
theorem tell_errno (k:Int) (w:World)(hg:Handle w):Calls Tryz.prog 18 #[.iface 39 (.int .i64 k)] w fun e w'=>e = .returned (.int .i64 k)∧Chg Nil w w':=by
 have hlt:1<w.heap.size:=World.block_lt_of_cell? _ _ hg
 go_enter Tryz.func18,Tryz.ntmps18
 go_wp2_with (go_at_call 73;refine (as_hit k ⟨w.heap.size,0,none⟩ (.int .i64 0) _ (hg.chg ((Chg.refl Nil w).alloc _) (fun h=>h)) ?_ ?_).mono ?_;(simp);(simp);rintro e w' ⟨rfl,rfl⟩)
 go_ret;refine⟨rfl,?_⟩
 exact (((((Chg.refl Nil w).alloc _).alloc _).alloc _).alloc _).alloc _
theorem bare_nil (w:World):Calls Tryz.prog 67 #[.nilIface] w fun e w'=>e = .returned (.tuple #[.int .i64 0,.bool true])∧w=w':=by
 go_enter Tryz.func67,Tryz.ntmps67
 go_wp2_with (go_at_call 18;refine (tell_nil _).mono ?_;rintro e w' ⟨rfl,rfl⟩)
 refine wp_loop_rounds 1 ?_
 rw[rounds_succ];go_wp2
 go_ret2;exact⟨rfl,rfl⟩
theorem assert_at (k:Int) (w:World):(Instr.typeAssert (.iface 39 (.int .i64 k)) 24 192 true).run Tryz.prog w = .ok (.tuple #[.pointer none,.bool false]) w:=by kernel_rfl
theorem assert_unwrap (v:Value) (w:World):(Instr.typeAssert (.iface 39 v) 24 194 true).run Tryz.prog w = .ok (.tuple #[.nilIface,.bool false]) w:=
 run_typeAssert_lacksB Tryz.underlying194 (by kernel_rfl) (by kernel_rfl) v 24 w
theorem bare_errno (k:Int) (w:World) (hg:Handle w):Calls Tryz.prog 67 #[.iface 39 (.int .i64 k)] w fun e w'=>e = .returned (.tuple #[.int .i64 k,.bool true])∧Chg Nil w w':=by
 have ta:=assert_at
 have tu:=assert_unwrap
 go_enter Tryz.func67,Tryz.ntmps67
 go_wp2_with fail;refine (tell_errno k w hg).mono ?_
 rintro e w1 ⟨rfl,hc⟩
 go_wp2_with fail;refine wp_loop_rounds 1 ?_
 rw[rounds_succ];go_wp2
 go_ret2;exact⟨rfl,hc⟩
theorem lawBare_any (k:Nat) (w:World) (hg:Handle w):Calls Tryz.prog 11 #[errV 39 k,.int .i64 (k:Int)] w fun e w'=>e = .returned (.bool true)∧Chg Nil w w':=by
 by_cases h0:k=0
 ·subst h0;show Calls Tryz.prog 11 #[.nilIface,.int .i64 0] w _
  go_enter Tryz.func11,Tryz.ntmps11
  go_wp2_with fail;refine (bare_nil w).mono ?_
  rintro e w1 ⟨rfl,rfl⟩
  go_wp2_with fail;go_ret;exact⟨rfl,Chg.refl _ _⟩
 ·have he:errV 39 k = .iface 39 (.int .i64 (k:Int)):=if_neg h0
  rw[he];clear he h0;go_enter Tryz.func11,Tryz.ntmps11
  go_wp2_with fail;refine (bare_errno k w hg).mono ?_
  rintro e w1 ⟨rfl,hc⟩
  go_wp2_with fail;go_ret;exact⟨rfl,hc⟩
theorem back_more {base en:Int}{rs:List Rec}(h:encErr base en rs=0) (more:List UInt8) :
  decErr (encAll base en rs++more)=0∧fromB (encAll base en rs++more)=(encAll base en rs).length∧(encAll base en rs++more).take (fromB (encAll base en rs++more))=encAll base en rs:=by
 obtain⟨h0,hl,hf,hp⟩:=decErr_enc h
 have hlo:8≤(encAll base en rs).length:=by omega
 have hfm:fromB (encAll base en rs++more)=fromB (encAll base en rs):=by
  have hg:∀ j,j<4→(encAll base en rs++more).getD j 0=(encAll base en rs).getD j 0:=by
   intro j hj;simp only[List.getD_eq_getElem?_getD,List.getElem?_append_left (show j<(encAll base en rs).length by omega)]
  rw[fromB_eq,fromB_eq,hg 0 (by omega),hg 1 (by omega),hg 2 (by omega),hg 3 (by omega)]
 have hfl:fromB (encAll base en rs)=(encAll base en rs).length:=by omega
 have hd4:fromB ((encAll base en rs++more).drop 4)=fromB ((encAll base en rs).drop 4):=by
  have hg:∀ j,j<4→((encAll base en rs++more).drop 4).getD j 0=((encAll base en rs).drop 4).getD j 0:=by
   intro j hj;simp only[List.getD_eq_getElem?_getD,List.getElem?_drop,List.getElem?_append_left (show 4+j<(encAll base en rs).length by omega)]
  rw[fromB_eq,fromB_eq,hg 0 (by omega),hg 1 (by omega),hg 2 (by omega),hg 3 (by omega)]
 have ht:(encAll base en rs++more).take (fromB (encAll base en rs++more))=encAll base en rs:=by
  rw[hfm,hfl];exact List.take_left' rfl
 refine⟨?_,by rw[hfm,hfl],ht⟩
 have h0':=h0
 unfold decErr at h0' ⊢
 rw[ht,hd4,hfm];rw[List.take_of_length_le (by omega)] at h0'
 by_cases g1:(encAll base en rs).length<8
 ·omega
 rw[if_neg g1] at h0'
 rw[if_neg (by rw[List.length_append];omega)]
 by_cases g2:fromB (encAll base en rs)<11∨6000<fromB (encAll base en rs)
 ·rw[if_pos g2] at h0';cases h0'
 rw[if_neg g2] at h0' ⊢
 rw[if_neg (by omega)] at h0'
 rw[if_neg (by rw[List.length_append];omega)]
 exact h0'
structure Bt where
 base:Int
 en:Int
 rs:List Rec
def Bt.bytes (b:Bt):List UInt8:=encAll b.base b.en b.rs
structure Bt.Ok (b:Bt):Prop where
 err:encErr b.base b.en b.rs=0
 recs:∀ r∈b.rs,Rec.Ok r
structure Bt.Nums (b:Bt):Prop where
 lo:0≤b.base
 lt:b.base<b.en
 hi:b.en≤1099511627776
 few:b.rs.length≤50
 len:b.bytes.length≤6000
 some:11≤b.bytes.length
theorem checked_of_enc {base en:Int}{rs:List Rec}(h:encErr base en rs=0):checkB base en rs=0:=by
 unfold encErr at h;by_cases hc:checkB base en rs=0
 ·exact hc
 ·rw[if_pos hc] at h;exact absurd h hc
theorem Bt.Ok.nums {b:Bt}(h:b.Ok):b.Nums:=by
 have hc:=checked_of_enc h.err
 obtain⟨h0,hl,hf,hp⟩:=decErr_enc h.err
 have h0':=h0
 unfold decErr at h0'
 unfold checkB at hc;by_cases g1:b.base<0∨1099511627776<b.en
 ·rw[if_pos g1] at hc;cases hc
 rw[if_neg g1] at hc
 by_cases g2:b.en≤b.base
 ·rw[if_pos g2] at hc;cases hc
 rw[if_neg g2] at hc
 by_cases g3:50<b.rs.length∨50<b.en-b.base
 ·rw[if_pos g3] at hc;cases hc
 by_cases g4:(encAll b.base b.en b.rs).length<8
 ·rw[if_pos g4] at h0';cases h0'
 rw[if_neg g4] at h0'
 by_cases g5:fromB (encAll b.base b.en b.rs)<11∨6000<fromB (encAll b.base b.en b.rs)
 ·rw[if_pos g5] at h0';cases h0'
 have e:b.bytes.length=(encAll b.base b.en b.rs).length:=rfl
 exact⟨by omega,by omega,by omega,by omega,by omega,by omega⟩
def batBs (l:List Bt):List UInt8:=l.flatMap Bt.bytes
theorem batBs_cons (b:Bt) (l:List Bt):batBs (b::l)=b.bytes++batBs l:=List.flatMap_cons
theorem batBs_append (l m:List Bt):batBs (l++m)=batBs l++batBs m:=List.flatMap_append
theorem batBs_snoc (l:List Bt) (b:Bt):batBs (l++[b])=batBs l++b.bytes:=by rw[batBs_append,batBs_cons];simp[batBs]
def plsOf:Nat→List Bt→List Pl
 | _,[]=>[]
 | n,b::l=>⟨n,b.bytes.length,b.base,b.en,timeOf b.rs⟩::plsOf (n+b.bytes.length) l
theorem plsOf_length:∀ (n:Nat) (l:List Bt),(plsOf n l).length=l.length
 | _,[]=>rfl
 | n,b::l=>by rw[plsOf,List.length_cons,plsOf_length,List.length_cons]
theorem plsOf_snoc:∀ (n:Nat) (l:List Bt) (b:Bt),plsOf n (l++[b])=plsOf n l++[⟨n+(batBs l).length,b.bytes.length,b.base,b.en,timeOf b.rs⟩]
 | n,[],b=>by simp[plsOf,batBs]
 | n,a::l,b=>by
  rw[List.cons_append,plsOf,plsOf_snoc,plsOf,batBs_cons,List.length_append,List.cons_append,Nat.add_assoc]
def rising:Int→List Bt→Prop
 | _,[]=>True
 | n,b::l=>n≤b.base∧rising b.en l
def lastEnd:Int→List Bt→Int
 | n,[]=>n
 | _,b::l=>lastEnd b.en l
theorem lastEnd_snoc:∀ (n:Int) (l:List Bt) (b:Bt),lastEnd n (l++[b])=b.en
 | _,[],_=>rfl
 | _,a::l,b=>lastEnd_snoc a.en l b
theorem rising_snoc:∀ {n:Int}{l:List Bt}{b:Bt},rising n l→lastEnd n l≤b.base→rising n (l++[b])
 | _,[],_,_,h=>⟨h,trivial⟩
 | _,a::l,b,h,h2=>⟨h.1,rising_snoc h.2 h2⟩
theorem rising_next:∀ {n:Int}{l:List Bt}{i:Nat}(hi:i<l.length),rising n l→lastEnd n (l.take i)≤l[i].base
 | _,a::l,0,_,h=>h.1
 | _,a::l,i+1,hi,h=>rising_next (n:=a.en) (l:=l) (i:=i) (by simpa using hi) h.2
structure SgOf (g:Sg) (l:List Bt):Prop where
 pls:g.pls=plsOf 0 l
 size:g.size=(batBs l).length
 ok:∀ b∈l,b.Ok
 up:rising g.base l
theorem SgOf.next {g:Sg}{l:List Bt}(h:SgOf g l):g.next=lastEnd g.base l:=by
 unfold Sg.next;rw[h.pls];rcases List.eq_nil_or_concat l with rfl | ⟨m,b,rfl⟩
 ·rfl
 ·rw[List.concat_eq_append,plsOf_snoc,lastEnd_snoc];simp
theorem SgOf.noted {g:Sg}{l:List Bt}(h:SgOf g l) {b:Bt}(hb:b.Ok)(hn:g.next≤b.base):SgOf (g.noted b.base b.en b.rs b.bytes.length) (l++[b]):=by
 refine⟨?_,?_,?_,rising_snoc h.up (by have h1:=h.next;show lastEnd g.base l≤b.base;omega)⟩
 ·show g.pls++[_]=_
  rw[plsOf_snoc,h.pls,h.size,Nat.zero_add]
 ·show g.size+b.bytes.length=_
  rw[batBs_snoc,List.length_append,h.size]
 ·intro c hc;rcases List.mem_append.1 hc with hc | hc
  ·exact h.ok c hc
  ·rw[List.mem_singleton.1 hc];exact hb
theorem parse_more {b:Bt}(h:b.Ok) (more:List UInt8):decErr (b.bytes++more)=0∧fromB (b.bytes++more)=b.bytes.length∧(parse (((b.bytes++more).take (fromB (b.bytes++more))).drop 8))=⟨b.base.toNat,(b.en-b.base).toNat,b.rs,([],false)⟩:=by
 obtain⟨h1,h2,h3⟩:=back_more h.err more
 obtain⟨h0,hl,hf,hp⟩:=decErr_enc h.err
 refine⟨h1,h2,?_⟩
 rw[hf,←hl,List.take_of_length_le (Nat.le_refl _)] at hp
 show parse ((List.take (fromB (encAll b.base b.en b.rs++more)) (encAll b.base b.en b.rs++more)).drop 8)=_
 rw[h3,hp]
structure DecV where
 base:Int
 en:Int
 n:Nat
 rs:List Rec
def decOut (l:List UInt8):DecV:=
 if decErr l=0 then ⟨((parse ((l.take (fromB l)).drop 8)).base:Nat),((parse ((l.take (fromB l)).drop 8)).base:Int)+((parse ((l.take (fromB l)).drop 8)).len:Nat),fromB l,(parse ((l.take (fromB l)).drop 8)).recs⟩ else ⟨0,0,0,[]⟩
theorem decOut_bad {l:List UInt8}(h:decErr l≠0):decOut l=⟨0,0,0,[]⟩:=if_neg h
theorem decOut_whole {b:Bt}(h:b.Ok) (more:List UInt8):decErr (b.bytes++more)=0∧decOut (b.bytes++more)=⟨b.base,b.en,b.bytes.length,b.rs⟩:=by
 obtain⟨h1,h2,h3⟩:=parse_more h more
 have hn:=h.nums
 refine⟨h1,?_⟩
 unfold decOut;rw[if_pos h1,h3,h2]
 have e1:((b.base.toNat:Nat):Int)=b.base:=Int.toNat_of_nonneg hn.lo
 have e2:(b.base.toNat:Int)+((b.en-b.base).toNat:Nat)=b.en:=by have:=hn.lt;have:=hn.lo;omega
 show DecV.mk ((b.base.toNat:Nat):Int) ((b.base.toNat:Int)+((b.en-b.base).toNat:Nat)) _ _=_
 rw[e2,e1]
def DecIs (n:Nat) (l:List UInt8) (v:Value) (w:World):Prop:=
 ∃ u,v = .tuple #[.agg #[.int .i64 (decOut l).base,.int .i64 (decOut l).en,u],.int .i64 ((decOut l).n:Nat),errV 39 (decErr l)]∧OwnR 61 w u (decOut l).rs∧∀ k,u.ownBlock=some k→n≤k
theorem decode_out (a:Option Addr) (l:List UInt8) (cap:Nat) (w:World)(hcap:l.length≤cap)(hl:cap≤maxLen)(hb:BytesAt w a l) :
  Calls Tryz.prog 187 #[.slice a l.length cap] w fun e w'=>∃ v,e = .returned v∧DecIs w.heap.size l v w'∧Chg Nil w w':=by
 refine (decode_any a l cap w hcap hl hb).mono ?_
 rintro e w' ⟨hch,hd⟩
 rcases hd with ⟨hne,rfl⟩ | ⟨h0,v,rfl,hown,hnew⟩
 ·refine⟨_,rfl,⟨.slice none 0 0,?_,?_,fun k hk=>by cases hk⟩,hch⟩
  ·rw[decOut_bad hne];rfl
  ·rw[decOut_bad hne];exact OwnR.nil _ _
 ·have e1:decOut l=⟨((parse ((l.take (fromB l)).drop 8)).base:Nat),((parse ((l.take (fromB l)).drop 8)).base:Int)+((parse ((l.take (fromB l)).drop 8)).len:Nat),fromB l,(parse ((l.take (fromB l)).drop 8)).recs⟩:=if_pos h0
  refine⟨_,rfl,⟨v,?_,?_,hnew⟩,hch⟩
  ·rw[e1,h0];rfl
  ·rw[e1];exact hown
theorem read_at (l:List Bt) (junk:List UInt8) {i:Nat}(hi:i<l.length):(batBs l++junk).drop (batBs (l.take i)).length=l[i].bytes++(batBs (l.drop (i+1))++junk):=by
 have e:l=l.take i++l[i]::l.drop (i+1):=by rw[List.getElem_cons_drop,List.take_append_drop]
 have e2:batBs l=batBs (l.take i)++(l[i].bytes++batBs (l.drop (i+1))):=by
  conv=>lhs;rw[e]
  rw[batBs_append,batBs_cons]
 rw[e2,List.append_assoc,List.drop_left' rfl,List.append_assoc]
structure ZR (n:Nat) (Z:Obj) (w w':World):Prop where
 os:w'.os=w.os
 tape:w'.tape=w.tape
 output:w'.output=w.output
 size:w.heap.size≤w'.heap.size
 block:∀ k,k<w.heap.size→w'.heap[k]? = w.heap[k]?∨(n≤k∧w.heap[k]? = some Z)
theorem ZR.of {n:Nat}{Z:Obj}{w w':World}(h:Chg Nil w w'):ZR n Z w w':=⟨h.os,h.tape,h.output,h.size,fun k hk=>.inl (h.block k hk (fun h=>h))⟩
theorem ZR.refl {n:Nat}{Z:Obj} (w:World):ZR n Z w w:=.of (Chg.refl _ _)
theorem ZR.trans {n:Nat}{Z:Obj}{a b c:World}(h:ZR n Z a b) (k:ZR n Z b c):ZR n Z a c:=by
 refine⟨k.os.trans h.os,k.tape.trans h.tape,k.output.trans h.output,Nat.le_trans h.size k.size,fun i hi=>?_⟩
 rcases h.block i hi with g | g
 ·rcases k.block i (Nat.lt_of_lt_of_le hi h.size) with g2 | ⟨g1,g2⟩
  ·exact .inl (g2.trans g)
  ·exact .inr ⟨g1,by rw[←g];exact g2⟩
 ·exact .inr g
theorem ZR.nil {n:Nat}{Z:Obj}{w w':World}(h:ZR n Z w w')(hn:w.heap.size≤n):Chg Nil w w':=
 ⟨h.os,h.tape,h.output,h.size,fun k hk _=>(h.block k hk).elim id (fun g=>by omega)⟩
theorem ZR.store {n b:Nat}{Z:Obj}{w w':World}(h:Chg (fun k=>k=b) w w')(hb:n≤b)(hz:w.heap[b]? = some Z):ZR n Z w w':=
 ⟨h.os,h.tape,h.output,h.size,fun k hk=>if e:k=b then .inr ⟨by omega,by rw[e];exact hz⟩ else .inl (h.block k hk e)⟩
theorem ZR.at {n:Nat}{Z:Obj}{w w':World}(h:ZR n Z w w') (k:Nat)(hk:w.heap[k]?≠some Z):Chg (fun i=>i≠k) w w':=
 ⟨h.os,h.tape,h.output,h.size,fun i hi hn=>by
  obtain rfl:i=k:=Decidable.not_not.1 hn
  exact (h.block i hi).elim id (fun g=>absurd g.2 hk)⟩
theorem ZR.all {n:Nat}{Z:Obj}{w w':World}(h:ZR n Z w w'):Chg (fun _=>True) w w':=⟨h.os,h.tape,h.output,h.size,fun _ _ h=>absurd trivial h⟩
theorem ZR.ownsRow {n:Nat}{Z:Obj}{w w':World}(h:ZR n Z w w') {e:TypeId}{sz len:Nat}{v:Value}{cells:List Value}(hv:w.ownsRow 0 e sz v len cells)(hne:∀ cur,Z≠.cells cur e (0,0)):w'.ownsRow 0 e sz v len cells:=by
 have hv2:=hv.2
 rcases hv2 with ⟨rfl,hn⟩ | ⟨g,cap,cur,rfl,_,hg,_⟩
 ·exact ownsRow_chg hv h.all (fun k hk=>by cases hk)
 ·exact ownsRow_chg hv (h.at g (by rw[hg];intro e;exact hne _ (Option.some.inj e).symm)) (fun k hk h=>h (Option.some.inj hk).symm)
theorem ZR.bytes {n:Nat}{Z:Obj}{w w':World}(h:ZR n Z w w') {a:Option Addr}{l:List UInt8}(hb:BytesAt w a l)(hZ:∀ (b off:Nat) (x:UInt8),w.heap[b]? = some Z→w.cell? ⟨b,off,none⟩≠some (bval x)):BytesAt w' a l:=by
 intro i hi;obtain⟨b,off,ha,hc⟩:=hb i hi
 refine⟨b,off,ha,?_⟩
 exact (h.at b (fun hz=>hZ b _ _ hz hc)).cell hc (fun h=>h rfl)
def batch0:Obj:=.cells #[.int .i64 0,.int .i64 0,.slice none 0 0] 142 (0,0)
theorem batch0_byte {w:World} (b off:Nat) (x:UInt8)(h:w.heap[b]? = some batch0):w.cell? ⟨b,off,none⟩≠some (bval x):=by
 rw[cell_of_row w b off _ _ _ h]
 rcases off with _ | _ | _ | k
 ·intro e;cases e
 ·intro e;cases e
 ·intro e;cases e
 ·intro e;simp at e
theorem batch0_rec (cur:Array Value):batch0≠.cells cur 61 (0,0):=by
 intro e;unfold batch0 at e;injection e with _ h2 _
 exact absurd h2 (by decide)
namespace Ch
section
variable {P:Program} {ops:Array Oper} {R:World→World→Prop} {C:List Nat} {F:List Value→World→Prop} {w0:World} {Q:Exit→Act→World→Prop} {a0:Act}
theorem Walk.chainSx {β:Type} (G:β→Value) (H:β→World→Prop)(hG:∀ v w,F [v] w→∃ b,v=G b∧H b w) {js:List Nat}{E:List (List Nat)}{o:Oper}{os:List Oper}{specs:List Spec}(hd:o.dst=none)(hi:C[1]? = some specs.length)
  (h:∀ w,R w0 w→∀ b:β,H b w→∀ N:Value→World→Prop,(∀ w',R w w'→F [G b,undef] w'→N undef w')→Ob P ops o N w (depsOf ops (chained C [G b] specs) js) a0)
  (hrest:Walk P ops R C F w0 Q a0 E os (specs++[Sum.inl undef])):Walk P ops R C F w0 Q a0 (js::E) (o::os) specs:=
 Walk.chainS 1 hd hi (fun w hw vs hvs hF N hN=>by
  obtain⟨v,rfl⟩:=List.length_eq_one_iff.1 hvs
  obtain⟨b,rfl,hb⟩:=hG v w hF
  exact h w hw b hb N hN) hrest
end
end Ch
end Go.Proofs.YtobegmcbfgnpnaaGreatDoor
