/-
  Plain facts on the names of segments' files: a name is read back; two ways of reading a name are one. Of no program.
-/
import Derived.Lib.ParseIntBTie
import Derived.Lib.AppendIntMem
import Derived.Test.YtdjmifaidgbbaaaGreatDoorT15
import Derived.Stop.Asserts
set_option linter.unusedVariables false
set_option linter.unusedSimpArgs false
set_option maxHeartbeats 0
set_option maxRecDepth 200000
namespace Go.Proofs.YtdjmifaidgbbaaaGreatDoor
open Go.Lib
theorem decFrom_app (l m:List UInt8):∀ a,decFrom a (l++m)=(decFrom a l).bind fun b=>decFrom b m:=by
 induction l with
 | nil=>intro a;rfl
 | cons x r ih=>
  intro a;simp only[List.cons_append,decFrom]
  cases digitVal x with
  | none=>rfl
  | some d=>exact ih _
theorem decFrom_zeros (k:Nat):decFrom 0 (List.replicate k 48)=some 0:=by
 induction k with
 | zero=>rfl
 | succ k ih=>
  rw[List.replicate_succ];simp only[decFrom]
  have:digitVal 48=some 0:=by decide
  rw[this];exact ih
theorem digit_of (u:Nat)(h:u<10):digitVal (UInt8.ofNat (48+u))=some u:=by
 have e:(UInt8.ofNat (48+u)).toNat=48+u:=by rw[UInt8.toNat_ofNat'];omega
 unfold digitVal;rw[e,if_pos (by omega)]
 congr 1
 omega
theorem dec_step {u:Nat}(h:¬u<10):decDigits u=decDigits (u / 10)++[UInt8.ofNat (48+u % 10)]:=by
 rw[decDigits,dif_neg h]
theorem dec_one {u:Nat}(h:u<10):decDigits u=[UInt8.ofNat (48+u)]:=by
 rw[decDigits,dif_pos h]
theorem dec_back (u:Nat):decFrom 0 (decDigits u)=some u:=by
 induction u using Nat.strongRecOn with
 | ind u ih=>
  by_cases h:u<10
  ·rw[dec_one h]
   simp only[decFrom,digit_of u h]
   simp
  ·rw[dec_step h,decFrom_app,ih (u / 10) (by omega)]
   simp only[Option.bind_some,decFrom,digit_of (u % 10) (by omega)]
   congr 1
   omega
theorem dec_len:∀ (k u:Nat),u<10 ^ (k+1)→(decDigits u).length≤k+1
 | 0,u,h=>by rw[dec_one (by simpa using h)];simp
 | k+1,u,h=>by
  by_cases h10:u<10
  ·rw[dec_one h10];simp
  ·rw[dec_step h10,List.length_append,List.length_singleton]
   have:=dec_len k (u / 10) (by rw[Nat.pow_succ] at h;omega)
   omega
theorem dec_ne (u:Nat):decDigits u≠[]:=by
 intro h;have:=dec_back u
 by_cases h10:u<10
 ·rw[dec_one h10] at h;cases h
 ·rw[dec_step h10] at h;simp at h
def zeros (n:Nat):List UInt8:=List.replicate (10-(decDigits n).length) 48
def pad (n:Nat):List UInt8:=zeros n++decDigits n
def dotlog:List UInt8:=[46,108,111,103]
def segName (d:List UInt8) (n:Nat):List UInt8:=d++[47]++pad n++dotlog
theorem pad_len {n:Nat}(h:n≤1099511627776):(pad n).length≤13:=by
 unfold pad zeros;rw[List.length_append,List.length_replicate];have:=dec_len 12 n (by omega)
 omega
theorem pad_dec (n:Nat):decNat (pad n)=some n:=by
 have h:decFrom 0 (pad n)=some n:=by
  unfold pad zeros;rw[decFrom_app,decFrom_zeros];exact dec_back n
 unfold decNat;have:(pad n).isEmpty=false:=by
  unfold pad;cases hd:zeros n++decDigits n with
  | nil=>exact absurd (List.append_eq_nil_iff.1 hd).2 (dec_ne n)
  | cons _ _=>rfl
 rw[this];simpa using h
theorem atoi_of_dec {l:List UInt8}{n:Nat}(h:decNat l=some n):atoi l=some (n:Int):=by
 cases l with
 | nil=>simp[decNat] at h
 | cons b r=>
  have h0:decFrom 0 (b::r)=some n:=by
   unfold decNat at h;simpa using h
  obtain⟨d,hd⟩:=digit_of_decFrom _ _ _ h0 0 b rfl
  have hne:b≠45∧b≠43:=by
   constructor<;>(rintro rfl;simp[digitVal] at hd)
  unfold atoi;simp[hne.1,hne.2,h]
theorem pad_atoi {n:Nat}(h:n≤1099511627776):atoiAll (pad n) = .ok (n:Int):=by
 rw[atoiAll_short _ (by have:=pad_len h;omega),atoi_of_dec (pad_dec n)]
 rfl
def progBase (d nm:List UInt8):Int:=
 let s:=trimPrefix nm (d++[47])
 if hasSuffix s dotlog then
  match atoiAll (trimSuffix s dotlog) with
  | .ok v=>if 0≤v∧v≤1099511627776∧segName d v.toNat=nm then v else -1
  | _=>-1
 else -1
theorem cut_pre (p l:List UInt8):trimPrefix (p++l) p=l:=by
 unfold trimPrefix hasPrefix;rw[if_pos (by simp),List.drop_left]
theorem has_suf (l p:List UInt8):hasSuffix (l++p) p=true:=by
 unfold hasSuffix;simp
theorem cut_suf (l p:List UInt8):trimSuffix (l++p) p=l:=by
 unfold trimSuffix;rw[if_pos (has_suf l p),List.length_append,Nat.add_sub_cancel,List.take_left]
theorem segName_eq (d:List UInt8) (n:Nat):segName d n=(d++[47])++(pad n++dotlog):=by
 unfold segName;rw[List.append_assoc]
theorem prog_hit (d:List UInt8) {n:Nat}(h:n≤1099511627776):progBase d (segName d n)=n:=by
 unfold progBase;simp only
 rw[show trimPrefix (segName d n) (d++[47])=pad n++dotlog by rw[segName_eq];exact cut_pre _ _]
 rw[has_suf,cut_suf,pad_atoi h]
 simp only[if_true]
 rw[if_pos ⟨by omega,by omega,by rw[Int.toNat_natCast]⟩]
theorem prog_miss {d nm:List UInt8}(h:∀ n:Nat,n≤1099511627776→segName d n≠nm):progBase d nm = -1:=by
 unfold progBase;simp only
 split
 ·split
  ·rename_i v _
   rw[if_neg (fun ⟨h0,h1,h2⟩=>h v.toNat (by omega) h2)]
  ·rfl
 ·rfl
open Go.RowKit Go.Shelf
theorem ba_eq {a b:ByteArray}(h:a.data.toList=b.data.toList):a=b:=by
 cases a;cases b
 congr 1
 exact Array.toList_inj.1 h
theorem ba_app (a b:ByteArray):(a++b).data.toList=a.data.toList++b.data.toList:=by
 simp
structure Tabs (w:World):Prop where
 pow:TabIs Tryz.prog w "internal/strconv.uint64pow10" .u64 pow10Tab
theorem var_chg {w w':World}(h:Chg Nil w w') {n:String}{cs:Array Value}(hv:w.var? Tryz.prog n=some cs):w'.var? Tryz.prog n=some cs:=by
 unfold World.var? at *
 cases hg:Tryz.prog.globalNamed n with
 | none=>simp[hg] at hv
 | some g=>
  simp only[hg,Option.bind_some] at hv ⊢
  have hlt:g<w.heap.size:=by
   rcases Nat.lt_or_ge g w.heap.size with h' | h'
   ·exact h'
   ·rw[Array.getElem?_eq_none h'] at hv;simp at hv
  rw[h.block g hlt (fun h=>h)]
  exact hv
theorem Tabs.chg {w w':World}(h:Tabs w) (k:Chg Nil w w'):Tabs w':=by
 exact⟨var_chg k h.pow⟩
structure TabE (w:World):Prop where
 tabs:Tabs w
 syn:∃ tp p,w.var? Tryz.prog "strconv.ErrSyntax" = some #[.iface tp p]
 rng:∃ tp p,w.var? Tryz.prog "strconv.ErrRange" = some #[.iface tp p]
theorem TabE.chg {w w':World}(h:TabE w) (k:Chg Nil w w'):TabE w':=by
 obtain⟨h1,⟨tp,p,h2⟩,⟨tp',p',h3⟩⟩:=h
 exact⟨h1.chg k,⟨tp,p,var_chg k h2⟩,⟨tp',p',var_chg k h3⟩⟩
theorem itoa_any {w:World}(hT:Tabs w) (n:Nat)(hn:n≤1099511627776) :
  Calls Tryz.prog 124 #[.int .i64 n] w fun e w'=>e = .returned (.string ⟨(decDigits n).toArray⟩)∧Chg Nil w w':=by
 have h:=Any.strconv_Itoa Tryz.laysM171 (n:Int) (by omega) (by omega) w hT.pow
 change Calls Tryz.prog 124 _ _ _ at h
 refine h.mono fun e w' ⟨h1,k,os,h2⟩=>⟨?_,?_⟩
 ·rw[h1,itoa_nonneg]
 ·rw[h2];exact Chg.of_below (below_grow _ w (Nat.le_refl _) k os) _
theorem repeat_any (c:Nat)(hc:c≤10) (w:World) :
  Calls Tryz.prog 125 #[.string ⟨#[48]⟩,.int .i64 c] w fun e w'=>e = .returned (.string ⟨(List.replicate c 48).toArray⟩)∧Chg Nil w w':=by
 have hrep:∀ c,repeatL [48] c=List.replicate c 48:=by
  intro c;induction c with
  | zero=>rfl
  | succ c ih=>rw[repeatL,ih];rfl
 rcases Nat.lt_or_ge c 2 with h | h
 ·rcases Nat.lt_or_ge c 1 with h1 | h1
  ·obtain rfl:c=0:=by omega
   exact (Any.strings_Repeat_zero Tryz.lays105 ⟨#[48]⟩ w).mono fun e w' ⟨h1,h2⟩=>⟨h1,by rw[h2];exact Chg.refl _ _⟩
  ·obtain rfl:c=1:=by omega
   exact (Any.strings_Repeat_one Tryz.lays105 ⟨#[48]⟩ w).mono fun e w' ⟨h1,h2⟩=>⟨h1,by rw[h2];exact Chg.refl _ _⟩
 ·have hm:=Any.strings_Repeat_main Tryz.lays105 Tryz.Builder_Extra_105 ⟨#[48]⟩ c w h (by omega) (by have:(ByteArray.mk #[48]).size=1:=rfl;rw[this];omega) (by decide)
  refine hm.mono fun e w' ⟨h1,h2⟩=>⟨?_,Chg.of_below h2 _⟩
  rw[h1];have:(ByteArray.mk #[48]).data.toList=[48]:=rfl
  rw[this,hrep]
theorem name_any {w:World} (hT:Tabs w) (d:ByteArray) (n:Nat) (hd:d.size≤1000) (hn:n≤1099511627776) :
  Calls Tryz.prog 87 #[.string d,.int .i64 n] w fun e w'=>e = .returned (.string ⟨(segName d.data.toList n).toArray⟩)∧Chg Nil w w':=by
 have HI:=Lib.hid (itoa_any hT n hn)
 have HR:=Lib.hid (fun w=>repeat_any (10-(decDigits n).length) (by omega) w)
 have HL:Hid ((decDigits n).length≤13):=dec_len 12 n (by omega)
 obtain⟨z,hz⟩:∃ z,z=decDigits n:=⟨_,rfl⟩
 rw[←hz] at HI HR HL
 have HZ:=Lib.hid hz
 clear hz hT;go_enter Tryz.func87,Tryz.ntmps87
 go_wp2_with fail;refine HI.out.mono ?_
 rintro e w1 ⟨rfl,hc1⟩
 have hmx:max 0 (wrap64 (10-(z.length:Int)))=((10-z.length:Nat):Int):=by
  have:=HL.out
  unfold wrap64;omega
 have hz1:(ByteArray.mk z.toArray).size=z.length:=by show z.toArray.size=_;simp
 go_wp2_with fail;refine (HR.out w1).mono ?_
 rintro e w2 ⟨rfl,hc2⟩
 have hz13:=HL.out
 go_wp2_with fail;go_ret;refine⟨congrArg (fun b=>Ending.returned (Value.string b)) (ba_eq ?_),hc1.trans hc2 (fun _ h=>h.elim)⟩
 rw[ba_app,ba_app,ba_app,ba_app];simp only[segName,pad,zeros,←HZ.out,List.append_assoc]
 rfl
open Go.Maps
theorem var_off {S:Nat→Prop}{w w':World}(h:Chg S w w') {n:String}{cs:Array Value}(hn:∀ g,Tryz.prog.globalNamed n=some g→¬S g)(hv:w.var? Tryz.prog n=some cs):w'.var? Tryz.prog n=some cs:=by
 unfold World.var? at *
 cases hg:Tryz.prog.globalNamed n with
 | none=>simp[hg] at hv
 | some g=>
  simp only[hg,Option.bind_some] at hv ⊢
  have hlt:g<w.heap.size:=by
   rcases Nat.lt_or_ge g w.heap.size with h' | h'
   ·exact h'
   ·rw[Array.getElem?_eq_none h'] at hv;simp at hv
  rw[h.block g hlt (hn g hg)]
  exact hv
def TabN (n:String):Prop:=n = "internal/strconv.uint64pow10"
def TabB (B:Nat→Prop):Prop:=∀ n,TabN n→∀ g,Tryz.prog.globalNamed n=some g→B g
theorem Tabs.off {S:Nat→Prop}{w w':World}(h:Tabs w) (k:Chg S w w')(hn:∀ n,TabN n→∀ g,Tryz.prog.globalNamed n=some g→¬S g):Tabs w':=by
 exact⟨var_off k (hn _ rfl) h.pow⟩
theorem var_lt {w:World}{n:String}{cs:Array Value}(hv:w.var? Tryz.prog n=some cs) {g:Nat}(hg:Tryz.prog.globalNamed n=some g):g<w.heap.size:=by
 unfold World.var? at hv
 rw[hg] at hv;simp only[Option.bind_some] at hv
 rcases Nat.lt_or_ge g w.heap.size with h' | h'
 ·exact h'
 ·rw[Array.getElem?_eq_none h'] at hv;simp at hv
theorem Tabs.lt {w:World}(h:Tabs w):TabB (fun k=>k<w.heap.size):=by
 rintro n rfl g hg
 exact var_lt h.pow hg
structure DsS (B:Nat→Prop) (w:World) (p:Nat) (S:Nat→Prop) (d:Dk):Prop where
 lo:∀ k,B k→k<w.heap.size
 a:DiskAt w p S d
 sl:∀ k,S k→¬B k∧k<w.heap.size
theorem SgS.ds {B:Nat→Prop}{w:World}{p s:Nat}{S:Nat→Prop}{v:Value}{d:Dk}{g:Sg}(h:SgS B w p s S v d g):DsS B w p S d:=⟨h.lo,h.a,h.sl⟩
theorem DsS.nil {B:Nat→Prop}{w w':World}{p:Nat}{S:Nat→Prop}{d:Dk}(h:DsS B w p S d)(hc:Chg Nil w w'):DsS B w' p S d:=by
 have hz:=hc.size
 exact⟨fun k hk=>Nat.lt_of_lt_of_le (h.lo k hk) hz,h.a.chg hc (fun _ _ h=>h),fun k hs=>⟨(h.sl k hs).1,by have:=(h.sl k hs).2;omega⟩⟩
theorem DsS.disk {B:Nat→Prop}{w w':World}{p:Nat}{S:Nat→Prop}{d d':Dk}(h:DsS B w p S d)(ha:DiskAt w' p (Gr S w w') d')(hc:Chg S w w'):DsS B w' p (Gr S w w') d':=by
 have hz:=hc.size
 refine⟨fun k hk=>Nat.lt_of_lt_of_le (h.lo k hk) hz,ha,?_⟩
 rintro k (hs | hs)
 ·exact⟨(h.sl k hs).1,by have:=(h.sl k hs).2;omega⟩
 ·exact⟨fun hb=>by have:=h.lo k hb;have:=hs.1;omega,hs.2⟩
theorem DsS.seg {B:Nat→Prop}{w w':World}{p s:Nat}{S:Nat→Prop}{v:Value}{d:Dk}{g:Sg}(h:DsS B w p S d)(hc:Chg Nil w w')(hm:Sm w' s p v g)(hn:∀ k,SHas s v k→w.heap.size≤k):SgS B w' p s S v d g:=by
 have h2:=h.nil hc
 exact⟨h2.lo,h2.a,hm,fun k hk hs=>by have:=hn k hk;have:=(h.sl k hs).2;omega,h2.sl,fun k hk hb=>by have:=hn k hk;have:=h.lo k hb;omega⟩
theorem segName_len (dir:ByteArray) (n:Nat)(hd:dir.size≤100)(hn:n≤1099511627776):(segName dir.data.toList n).length≤1000:=by
 have h1:=dec_len 12 n (by omega)
 have h2:=list_size dir
 unfold segName pad zeros dotlog;simp only[List.length_append,List.length_replicate,List.length_cons,List.length_nil]
 omega
def MakeAt (B:Nat→Prop) (w w':World) (p:Nat) (S:Nat→Prop) (nm:List UInt8) (base:Nat) (R:Nat×Dk) (e:Ending):Prop:=
 Chg S w w'∧∃ S',DsS B w' p S' R.2∧
 ((R.1=0∧∃ s,w.heap.size≤s∧e = .returned (.tuple #[.pointer (some ⟨s,0,none⟩),.nilIface])∧SgS B w' p s S' (.slice none 0 0) R.2 ⟨nm,base,[],0⟩)∨
  (R.1≠0∧e = .returned (.tuple #[.pointer none,errD R.1])))
theorem smake_any {B:Nat→Prop} {w:World} {p:Nat} {S:Nat→Prop} {d:Dk} (h:DsS B w p S d) (hT:Tabs w) (hTB:TabB B) (dir:ByteArray) (hd:dir.size≤100) (base:Nat) (hb:base≤1099511627776) :
  Calls Tryz.prog 54 #[.pointer (some ⟨p,0,none⟩),.string dir,.int .i64 (base:Nat)] w fun e w'=>MakeAt B w w' p S (segName dir.data.toList base) base (d.make (segName dir.data.toList base)) e:=by
 have h0:¬(base:Int)<0:=by omega
 have h1:¬(1099511627776:Int)<(base:Int):=by omega
 have HNM:=Lib.hid (fun (w':World) (hT':Tabs w')=>name_any hT' dir base (by omega) hb)
 have HT:=Lib.hid hT
 have HTB:=Lib.hid hTB
 obtain⟨nm,hnm⟩:∃ nm,segName dir.data.toList base=nm:=⟨_,rfl⟩
 have hln:nm.length≤1000:=by rw[←hnm];exact segName_len dir base hd hb
 have HLN:=Lib.hid hln
 rw[hnm] at HNM;rw[hnm];have HS:=Lib.hid h
 obtain⟨R,hR⟩:∃ R,d.make nm=R:=⟨_,rfl⟩
 rw[hR];have HRR:=Lib.hid hR
 clear h hT hTB hd hb hnm hln hR;go_enter Tryz.func54,Tryz.ntmps54
 go_wp2_with fail;refine (HNM.out w HT.out).mono ?_
 rintro e w1 ⟨rfl,hc1⟩
 have HS1:=Lib.hid (HS.out.nil hc1)
 have HC1:=Lib.hid hc1
 have HOP:=Lib.hid (make_any HS1.out.a ⟨nm.toArray⟩ (by show nm.toArray.size≤4611686018427387904;simp;have:=HLN.out;omega))
 have he:d.make (ByteArray.mk nm.toArray).data.toList=d.make nm:=rfl
 rw[he,HRR.out] at HOP;clear hc1 he;go_wp2_with fail;refine HOP.out.mono ?_
 rintro e w2 ⟨rfl,h2,hc2⟩
 have HS2:=Lib.hid (HS1.out.disk h2 hc2)
 have HC2:=Lib.hid (HC1.out.weak (S':=S) (fun _ h=>h.elim) |>.trans hc2 (fun _ h=>.inl h))
 have HT2:=Lib.hid ((HT.out.chg HC1.out).off hc2 (fun n hn g hg hs=>(HS1.out.sl g hs).1 (HTB.out n hn g hg)))
 clear h2 hc2 HOP;by_cases hr:R.1=0
 ·have hev:errD R.1 = .nilIface:=by rw[hr];rfl
  rw[hev];have HR:=Lib.hid hr
  clear hev hr;go_wp2_with fail;refine (HNM.out w2 HT2.out).mono ?_
  rintro e w3 ⟨rfl,hc3⟩
  have HC3:=Lib.hid hc3
  clear hc3;go_wp2_with fail;go_ret2;have hal:=(Chg.refl Nil w3).alloc (.cells #[.pointer (some ⟨p,0,none⟩),.string ⟨nm.toArray⟩,.int .i64 (base:Nat),.slice none 0 0,.int .i64 0] 155)
  have h3:=HC2.out.size
  have h4:=HC3.out.size
  have hz:w2.heap.size≤w3.heap.size:=h4
  refine⟨(HC2.out.trans HC3.out (fun _ h=>h.elim)).trans (hal.weak (fun _ h=>h.elim)) (fun _ h=>.inl h),_,(HS2.out.nil HC3.out).nil hal,.inl ⟨HR.out,w3.heap.size,by omega,rfl,?_⟩⟩
  refine (HS2.out.nil HC3.out).seg hal ⟨Box.new w3 [.pointer (some ⟨p,0,none⟩),.string ⟨nm.toArray⟩,.int .i64 (base:Nat),.slice none 0 0,.int .i64 0] 155,OwnP.nil _⟩ ?_
  rintro k (rfl | hk)
  ·exact Nat.le_refl _
  ·simp[Value.ownBlock] at hk
 ·have hev:errD R.1 = .iface 65 (.int .i64 (R.1:Nat)):=if_neg hr
  rw[hev];have HR:=Lib.hid hr
  clear hev hr;go_wp2_with fail;go_ret2;exact⟨HC2.out,_,HS2.out,.inr ⟨HR.out,congrArg (fun v=>Ending.returned (.tuple #[.pointer none,v])) (errD_ne HR.out).symm⟩⟩
open Go.Extern.Stop Go.Stop Go.Extern
def Handle (w:World):Prop:=w.cell? ⟨0,0,none⟩=some (.iface 236 (.agg #[.pointer (some ⟨9,25,none⟩)]))
theorem Handle.chg {S:Nat→Prop}{w w':World}(h:Handle w)(hc:Chg S w w')(hn:¬S 0):Handle w':=hc.cell h hn
theorem as_valueOfP (t:Addr) (w:World):(ReflectliteValue.unpack (.iface 175 (.pointer (some t)))).run Tryz.prog w
 = .ok (.agg #[.pointer (some ⟨9,175,none⟩),.pointer (some ⟨w.heap.size,0,none⟩),.int .u64 150]) (w.alloc (.cells #[.pointer (some t)] 175)):=by kernel_rfl
theorem as_typeP (a:Addr) (w:World):(ReflectliteValue.methodAny (ReflectliteValue.valueError "reflectlite.Value.Type" 0) (fun t _ _ _=>ReflectliteType.toType t) #[.agg #[.pointer (some ⟨9,175,none⟩),.pointer (some a),.int .u64 150]]).run Tryz.prog w
 = .ok (.iface 236 (.agg #[.pointer (some ⟨9,175,none⟩)])) w:=by kernel_rfl
theorem as_methodKind (h:Value) (w:World):(Go.method 428 236 (.agg #[h]) "Kind").run Tryz.prog w = .ok (230,h) w:=by kernel_rfl
theorem as_kindP (w:World):((ReflectliteType.abiMethod fun t=>(fun a:Nat=>Value.int IntKind.u8 (a:Int)) <$> Rtype.kind t) #[.pointer (some ⟨9,175,none⟩)]).run Tryz.prog w = .ok (.int .u8 22) w:=by kernel_rfl
theorem as_kindE (w:World):((ReflectliteType.abiMethod fun t=>(fun a:Nat=>Value.int IntKind.u8 (a:Int)) <$> Rtype.kind t) #[.pointer (some ⟨9,65,none⟩)]).run Tryz.prog w = .ok (.int .u8 2) w:=by kernel_rfl
theorem as_rlm (z:Sem Value) (f:TypeId→Addr→Nat→Nat→Sem Value) (v:Value) :
 ReflectliteValue.method z f #[v]=(do match ←ReflectliteValue.parts v with | none=>z | some (t,a,fl)=>f t a fl (fl % 32)):=rfl
theorem as_partsP (a:Addr) (w:World):(ReflectliteValue.parts (.agg #[.pointer (some ⟨9,175,none⟩),.pointer (some a),.int .u64 150])).run Tryz.prog w = .ok (some (175,a,150)) w:=by kernel_rfl
theorem as_isNilP (a p:Addr) (W:World)(ha:W.cell? a=some (.pointer (some p))) :
  (ReflectliteValue.method (ReflectliteValue.valueError "reflectlite.Value.IsNil" 0) ReflectliteValue.isNil #[.agg #[.pointer (some ⟨9,175,none⟩),.pointer (some a),.int .u64 150]]).run Tryz.prog W = .ok (.bool false) W:=by
 rw[as_rlm];simp only[Sem.run_bind,as_partsP,Result.andThen]
 simp[ReflectliteValue.isNil,loadVar,isAgg,underlying,Tryz.underlying175,ha,Result.andThen]
theorem as_methodElem (h:Value) (w:World):(Go.method 428 236 (.agg #[h]) "Elem").run Tryz.prog w = .ok (246,.agg #[h]) w:=by kernel_rfl
theorem as_methodImplements (h:Value) (w:World):(Go.method 428 236 (.agg #[h]) "Implements").run Tryz.prog w = .ok (247,.agg #[h]) w:=by kernel_rfl
theorem as_methodAssignableTo (h:Value) (w:World):(Go.method 428 236 (.agg #[h]) "AssignableTo").run Tryz.prog w = .ok (244,.agg #[h]) w:=by kernel_rfl
theorem as_elemP (w:World):(ReflectliteType.method ReflectliteType.elem #[.agg #[.pointer (some ⟨9,175,none⟩)]]).run Tryz.prog w = .ok (.iface 236 (.agg #[.pointer (some ⟨9,65,none⟩)])) w:=by kernel_rfl
theorem as_implementsE (w:World):(ReflectliteType.relation "Implements" ReflectliteType.implements_ #[.agg #[.pointer (some ⟨9,65,none⟩)],.iface 236 (.agg #[.pointer (some ⟨9,25,none⟩)])]).run Tryz.prog w = .ok (.bool true) w:=by kernel_rfl
theorem as_typeOfE (v:Value) (w:World):(ReflectliteType.typeOf #[.iface 65 v]).run Tryz.prog w = .ok (.iface 236 (.agg #[.pointer (some ⟨9,65,none⟩)])) w:=by kernel_rfl
theorem as_assignableE (w:World):(ReflectliteType.relation "AssignableTo" ReflectliteType.assignableTo #[.agg #[.pointer (some ⟨9,65,none⟩)],.iface 236 (.agg #[.pointer (some ⟨9,65,none⟩)])]).run Tryz.prog w = .ok (.bool true) w:=by kernel_rfl
theorem as_valueOfE (k:Int) (w:World):(ReflectliteValue.unpack (.iface 65 (.int .i64 k))).run Tryz.prog w
 = .ok (.agg #[.pointer (some ⟨9,65,none⟩),.pointer (some ⟨w.heap.size,0,none⟩),.int .u64 130]) (w.alloc (.cells #[.int .i64 k] 65)):=by kernel_rfl
theorem as_elemOfP (w:World):(Rtype.elem? 175).run Tryz.prog w = .ok (some 65) w:=by kernel_rfl
theorem as_mkE (p:Addr) (w:World):(ReflectliteValue.mk 65 p ReflectliteValue.flagAddr).run Tryz.prog w = .ok (.agg #[.pointer (some ⟨9,65,none⟩),.pointer (some p),.int .u64 386]) w:=by kernel_rfl
theorem as_elemVP (a p:Addr) (W:World)(ha:W.cell? a=some (.pointer (some p))) :
  (ReflectliteValue.method (ReflectliteValue.valueError "reflectlite.Value.Elem" 0) ReflectliteValue.elem #[.agg #[.pointer (some ⟨9,175,none⟩),.pointer (some a),.int .u64 150]]).run Tryz.prog W
   = .ok (.agg #[.pointer (some ⟨9,65,none⟩),.pointer (some p),.int .u64 386]) W:=by
 rw[as_rlm];simp only[Sem.run_bind,as_partsP,Result.andThen]
 simp[ReflectliteValue.elem,loadVar,isAgg,underlying,Tryz.underlying175,ha,Result.andThen,as_elemOfP,as_mkE]
theorem as_rls (v x:Value):ReflectliteValue.set #[v,x]=(do
 let (some (dst,a,fl),some (src,b,_)):=(←ReflectliteValue.parts v,←ReflectliteValue.parts x)
  | unsupported (.noEntry "extern/(internal/reflectlite.Value).Set.zeroValue")
 if fl / ReflectliteValue.flagAddr % 2==0 then unsupported (.noEntry "extern/(internal/reflectlite.Value).Set.unaddressable")
 let val ←loadVar src b
 if ←Rtype.directlyAssignable dst src then storeVar dst a val
 else if ←Rtype.implements dst src then
  if (←Rtype.kind src)==20 then
   match val with
   | .nilIface=>unsupported (.noEntry "extern/reflectlite: a nil value of one interface type handed on as a value of another")
   | _=>storeVar dst a val
  else storeVar dst a (.iface src val)
 else panicString ("reflectlite.Set: value of type " ++ (←Rtype.spelt src) ++ " is not assignable to type " ++ (←Rtype.spelt dst))
 pure (.tuple #[])):=rfl
theorem as_partsEa (a:Addr) (w:World):(ReflectliteValue.parts (.agg #[.pointer (some ⟨9,65,none⟩),.pointer (some a),.int .u64 386])).run Tryz.prog w = .ok (some (65,a,386)) w:=by kernel_rfl
theorem as_partsE (a:Addr) (w:World):(ReflectliteValue.parts (.agg #[.pointer (some ⟨9,65,none⟩),.pointer (some a),.int .u64 130])).run Tryz.prog w = .ok (some (65,a,130)) w:=by kernel_rfl
theorem as_directE (w:World):(Rtype.directlyAssignable 65 65).run Tryz.prog w = .ok true w:=by kernel_rfl
theorem as_setE (ta b:Addr) (k:Int) (old:Value) (W:World)(hb:W.cell? b=some (.int .i64 k))(ht:W.cell? ta=some old)(hf:W.frozen? ta=false) :
  (ReflectliteValue.set #[.agg #[.pointer (some ⟨9,65,none⟩),.pointer (some ta),.int .u64 386],.agg #[.pointer (some ⟨9,65,none⟩),.pointer (some b),.int .u64 130]]).run Tryz.prog W
   = .ok (.tuple #[]) (W.setCell ta (.int .i64 k)):=by
 rw[as_rls];simp only[Sem.run_bind,as_partsEa,as_partsE,Result.andThen]
 simp[ReflectliteValue.flagAddr,loadVar,isAgg,underlying,Tryz.underlying65,hb,Result.andThen,as_directE,storeVar,Value.cells,storeCells,Addr.add]
 rw[run_store Tryz.prog W ta _ _ (by rfl)]
 simp[ht,hf]
theorem as_hit (k:Int) (t:Addr) (old:Value) (w:World) (hg:Handle w) (ht0:w.cell? t=some old) (hf0:w.frozen? t=false) :
  Calls Tryz.prog 109 #[.iface 65 (.int .i64 k),.iface 175 (.pointer (some t))] w fun ev w'=>ev = .returned (.bool true)∧w'=((((w.alloc (.cells #[.pointer (some t)] 175)).alloc (.cells #[.pointer (some ⟨9,175,none⟩),.pointer (some ⟨w.heap.size,0,none⟩),.int .u64 150] 199)).alloc (.cells #[.pointer (some ⟨9,175,none⟩),.pointer (some ⟨w.heap.size,0,none⟩),.int .u64 150] 199)).alloc (.cells #[.int .i64 k] 65)).setCell t (.int .i64 k):=by
 unfold Handle at hg;have h6:=@run_callFunc_extern Tryz.prog 133 _ (fun args=>ReflectliteValue.unpack (args.getD 0 (.tuple #[]))) Tryz.func133 (by kernel_rfl) (by kernel_rfl) (by kernel_rfl) (by kernel_rfl)
 have h7:=@run_callFunc_extern Tryz.prog 134 _ (ReflectliteValue.methodAny (ReflectliteValue.valueError "reflectlite.Value.Type" 0) (fun t _ _ _=>ReflectliteType.toType t)) Tryz.func134 (by kernel_rfl) (by kernel_rfl) (by kernel_rfl) (by kernel_rfl)
 have h8:=@run_callFunc_extern Tryz.prog 135 _ (ReflectliteValue.method (ReflectliteValue.valueError "reflectlite.Value.IsNil" 0) ReflectliteValue.isNil) Tryz.func135 (by kernel_rfl) (by kernel_rfl) (by kernel_rfl) (by kernel_rfl)
 have h27:=@run_callFunc_extern Tryz.prog 230 _ (ReflectliteType.abiMethod fun t=>do pure (.int .u8 (←Rtype.kind t))) Tryz.func230 (by kernel_rfl) (by kernel_rfl) (by kernel_rfl) (by kernel_rfl)
 have h37:=@run_callFunc_extern Tryz.prog 246 _ (ReflectliteType.method ReflectliteType.elem) Tryz.func246 (by kernel_rfl) (by kernel_rfl) (by kernel_rfl) (by kernel_rfl)
 have h38:=@run_callFunc_extern Tryz.prog 247 _ (ReflectliteType.relation "Implements" ReflectliteType.implements_) Tryz.func247 (by kernel_rfl) (by kernel_rfl) (by kernel_rfl) (by kernel_rfl)
 have h10:=@run_callFunc_extern Tryz.prog 163 _ ReflectliteType.typeOf Tryz.func163 (by kernel_rfl) (by kernel_rfl) (by kernel_rfl) (by kernel_rfl)
 have h35:=@run_callFunc_extern Tryz.prog 244 _ (ReflectliteType.relation "AssignableTo" ReflectliteType.assignableTo) Tryz.func244 (by kernel_rfl) (by kernel_rfl) (by kernel_rfl) (by kernel_rfl)
 have h11:=@run_callFunc_extern Tryz.prog 164 _ (ReflectliteValue.method (ReflectliteValue.valueError "reflectlite.Value.Elem" 0) ReflectliteValue.elem) Tryz.func164 (by kernel_rfl) (by kernel_rfl) (by kernel_rfl) (by kernel_rfl)
 have h12:=@run_callFunc_extern Tryz.prog 165 _ ReflectliteValue.set Tryz.func165 (by kernel_rfl) (by kernel_rfl) (by kernel_rfl) (by kernel_rfl)
 have tO:=as_typeOfE
 have mA:=as_methodAssignableTo
 have aE:=as_assignableE
 have vE:=as_valueOfE
 have f6:=as_valueOfP
 have f7:=as_typeP
 have mK:=as_methodKind
 have mE:=as_methodElem
 have mI:=as_methodImplements
 have kP:=as_kindP
 have kE:=as_kindE
 have eP:=as_elemP
 have iE:=as_implementsE
 have n8:=as_isNilP ⟨w.heap.size,0,none⟩ t ((w.alloc (.cells #[.pointer (some t)] 175)).alloc (.cells #[.pointer (some ⟨9,175,none⟩),.pointer (some ⟨w.heap.size,0,none⟩),.int .u64 150] 199)) (by simp)
 have hlt:0<w.heap.size:=World.block_lt_of_cell? _ _ hg
 have hg2:((w.alloc (.cells #[.pointer (some t)] 175)).alloc (.cells #[.pointer (some ⟨9,175,none⟩),.pointer (some ⟨w.heap.size,0,none⟩),.int .u64 150] 199)).cell? ⟨0,0,none⟩=some (.iface 236 (.agg #[.pointer (some ⟨9,25,none⟩)])):=by
  rw[World.cell?_alloc_lt _ _ ⟨0,0,none⟩ (by rw[World.size_alloc];exact Nat.lt_succ_of_lt hlt),World.cell?_alloc_lt _ _ ⟨0,0,none⟩ hlt];exact hg
 have htl:t.block<w.heap.size:=by
  rcases Nat.lt_or_ge t.block w.heap.size with h | h
  ·exact h
  ·simp[World.cell?,Array.getElem?_eq_none h] at ht0
 have el:=as_elemVP ⟨w.heap.size,0,none⟩ t (((w.alloc (.cells #[.pointer (some t)] 175)).alloc (.cells #[.pointer (some ⟨9,175,none⟩),.pointer (some ⟨w.heap.size,0,none⟩),.int .u64 150] 199)).alloc (.cells #[.pointer (some ⟨9,175,none⟩),.pointer (some ⟨w.heap.size,0,none⟩),.int .u64 150] 199)) (by rw[World.cell?_alloc_lt _ _ ⟨w.heap.size,0,none⟩ (by simp;omega)];simp)
 have st:=as_setE t ⟨w.heap.size+1+1+1,0,none⟩ k old ((((w.alloc (.cells #[.pointer (some t)] 175)).alloc (.cells #[.pointer (some ⟨9,175,none⟩),.pointer (some ⟨w.heap.size,0,none⟩),.int .u64 150] 199)).alloc (.cells #[.pointer (some ⟨9,175,none⟩),.pointer (some ⟨w.heap.size,0,none⟩),.int .u64 150] 199)).alloc (.cells #[.int .i64 k] 65))
  (by rw[World.cell?_alloc_at _ _ _ _ (by simp)];rfl)
  (by rw[World.cell?_alloc_lt _ _ t (by simp;omega),World.cell?_alloc_lt _ _ t (by simp;omega),World.cell?_alloc_lt _ _ t (by simp;omega),World.cell?_alloc_lt _ _ t htl];exact ht0)
  (by rw[World.frozen?_alloc_old _ _ t (by simp;omega),World.frozen?_alloc_old _ _ t (by simp;omega),World.frozen?_alloc_old _ _ t (by simp;omega),World.frozen?_alloc_old _ _ t (Nat.ne_of_lt htl)];exact hf0)
 go_enter Tryz.func109,Tryz.ntmps109
 go_wp2
 refine wp_loop_rounds 1 ?_
 rw[rounds_succ];go_wp2
 go_ret;exact⟨rfl,rfl⟩
end Go.Proofs.YtdjmifaidgbbaaaGreatDoor
