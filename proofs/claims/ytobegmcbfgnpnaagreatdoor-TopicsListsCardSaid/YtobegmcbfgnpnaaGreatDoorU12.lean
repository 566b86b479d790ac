/-
  The walks of the two packages' names of segments' files.
-/
import Derived.Test.YtobegmcbfgnpnaaGreatDoorU10
import Derived.Test.YtobegmcbfgnpnaaGreatDoorU08
import Derived.Test.YtobegmcbfgnpnaaGreatDoorU11
import Derived.Lib.AppendIntMem
set_option linter.unusedVariables false
set_option linter.unusedSimpArgs false
set_option maxHeartbeats 0
set_option maxRecDepth 200000
namespace Go.Proofs.YtobegmcbfgnpnaaGreatDoor
open Go.RowKit Go.Shelf Go.Lib
theorem ba_eq {a b:ByteArray}(h:a.data.toList=b.data.toList):a=b:=by
 cases a;cases b
 congr 1
 exact Array.toList_inj.1 h
theorem ba_app (a b:ByteArray):(a++b).data.toList=a.data.toList++b.data.toList:=by
 simp
structure Tabs (w:World):Prop where
 pow:TabIs Tryz.prog w "internal/strconv.uint64pow10" .u64 pow10Tab
theorem var_chg {w w':World}(h:Chg Nil w w') {n:String}{cs:Array Value}(hv:w.var? Tryz.prog n=some cs):w'.var? Tryz.prog n=some cs:=by
 unfold World.var? at *
 cases hg:Tryz.prog.globalNamed n with
 | none=>simp[hg] at hv
 | some g=>
  simp only[hg,Option.bind_some] at hv ⊢
  have hlt:g<w.heap.size:=by
   rcases Nat.lt_or_ge g w.heap.size with h' | h'
   ·exact h'
   ·rw[Array.getElem?_eq_none h'] at hv;simp at hv
  rw[h.block g hlt (fun h=>h)]
  exact hv
theorem Tabs.chg {w w':World}(h:Tabs w) (k:Chg Nil w w'):Tabs w':=by
 exact⟨var_chg k h.pow⟩
structure TabE (w:World):Prop where
 tabs:Tabs w
 syn:∃ tp p,w.var? Tryz.prog "strconv.ErrSyntax" = some #[.iface tp p]
 rng:∃ tp p,w.var? Tryz.prog "strconv.ErrRange" = some #[.iface tp p]
theorem TabE.chg {w w':World}(h:TabE w) (k:Chg Nil w w'):TabE w':=by
 obtain⟨h1,⟨tp,p,h2⟩,⟨tp',p',h3⟩⟩:=h
 exact⟨h1.chg k,⟨tp,p,var_chg k h2⟩,⟨tp',p',var_chg k h3⟩⟩
theorem itoa_any {w:World}(hT:Tabs w) (n:Nat)(hn:n≤1099511627776) :
  Calls Tryz.prog 123 #[.int .i64 n] w fun e w'=>e = .returned (.string ⟨(decDigits n).toArray⟩)∧Chg Nil w w':=by
 have h:=Any.strconv_Itoa Tryz.laysM171 (n:Int) (by omega) (by omega) w hT.pow
 change Calls Tryz.prog 123 _ _ _ at h
 refine h.mono fun e w' ⟨h1,k,os,h2⟩=>⟨?_,?_⟩
 ·rw[h1,itoa_nonneg]
 ·rw[h2];exact Chg.of_below (below_grow _ w (Nat.le_refl _) k os) _
theorem repeat_any (c:Nat)(hc:c≤10) (w:World) :
  Calls Tryz.prog 225 #[.string ⟨#[48]⟩,.int .i64 c] w fun e w'=>e = .returned (.string ⟨(List.replicate c 48).toArray⟩)∧Chg Nil w w':=by
 have hrep:∀ c,repeatL [48] c=List.replicate c 48:=by
  intro c;induction c with
  | zero=>rfl
  | succ c ih=>rw[repeatL,ih];rfl
 rcases Nat.lt_or_ge c 2 with h | h
 ·rcases Nat.lt_or_ge c 1 with h1 | h1
  ·obtain rfl:c=0:=by omega
   exact (Any.strings_Repeat_zero Tryz.lays105 ⟨#[48]⟩ w).mono fun e w' ⟨h1,h2⟩=>⟨h1,by rw[h2];exact Chg.refl _ _⟩
  ·obtain rfl:c=1:=by omega
   exact (Any.strings_Repeat_one Tryz.lays105 ⟨#[48]⟩ w).mono fun e w' ⟨h1,h2⟩=>⟨h1,by rw[h2];exact Chg.refl _ _⟩
 ·have hm:=Any.strings_Repeat_main Tryz.lays105 Tryz.Builder_Extra_105 ⟨#[48]⟩ c w h (by omega) (by have:(ByteArray.mk #[48]).size=1:=rfl;rw[this];omega) (by decide)
  refine hm.mono fun e w' ⟨h1,h2⟩=>⟨?_,Chg.of_below h2 _⟩
  rw[h1];have:(ByteArray.mk #[48]).data.toList=[48]:=rfl
  rw[this,hrep]
theorem name_any {w:World} (hT:Tabs w) (d:ByteArray) (n:Nat) (hd:d.size≤1000) (hn:n≤1099511627776) :
  Calls Tryz.prog 186 #[.string d,.int .i64 n] w fun e w'=>e = .returned (.string ⟨(segName d.data.toList n).toArray⟩)∧Chg Nil w w':=by
 have HI:=Lib.hid (itoa_any hT n hn)
 have HR:=Lib.hid (fun w=>repeat_any (10-(decDigits n).length) (by omega) w)
 have HL:Hid ((decDigits n).length≤13):=dec_len 12 n (by omega)
 obtain⟨z,hz⟩:∃ z,z=decDigits n:=⟨_,rfl⟩
 rw[←hz] at HI HR HL
 have HZ:=Lib.hid hz
 clear hz hT;go_enter Tryz.func186,Tryz.ntmps186
 go_wp2_with fail;refine HI.out.mono ?_
 rintro e w1 ⟨rfl,hc1⟩
 have hmx:max 0 (wrap64 (10-(z.length:Int)))=((10-z.length:Nat):Int):=by
  have:=HL.out
  unfold wrap64;omega
 have hz1:(ByteArray.mk z.toArray).size=z.length:=by show z.toArray.size=_;simp
 go_wp2_with fail;refine (HR.out w1).mono ?_
 rintro e w2 ⟨rfl,hc2⟩
 have hz13:=HL.out
 go_wp2_with fail;go_ret;refine⟨congrArg (fun b=>Ending.returned (Value.string b)) (ba_eq ?_),hc1.trans hc2 (fun _ h=>h.elim)⟩
 rw[ba_app,ba_app,ba_app,ba_app];simp only[segName,pad,zeros,←HZ.out,List.append_assoc]
 rfl
theorem bytes_eqT {a b:ByteArray}(h:a=b):(a.toList==b.toList)=true:=by rw[h];simp
theorem bytes_eqF {a b:ByteArray}(h:a≠b):(a.toList==b.toList)=false:=by
 rw[beq_eq_false_iff_ne];intro e;rw[ByteArray.toList_eq,ByteArray.toList_eq] at e;exact h (ba_eq e)
theorem chg_bytes {w w':World}{T:TypeId}(h:w'=w∨∃ t,w'=Lib.bytesWorld w T t):Chg Nil w w':=by
 rcases h with rfl | ⟨t,rfl⟩
 ·exact Chg.refl _ _
 ·exact Chg.of_below (Lib.bytesWorld_below _ _ _) _
theorem atoi_any {w:World}(hT:TabE w) (s:ByteArray)(hs:s.size≤1000) :
  Calls Tryz.prog 59 #[.string s] w fun e w'=>Chg Nil w w'∧
   ((∃ v,atoiAll s.data.toList = .ok v∧e = .returned (.tuple #[.int .i64 v,.nilIface]))∨
    ((∀ v,atoiAll s.data.toList≠.ok v)∧∃ v t N,e = .returned (.tuple #[.int .i64 v,.iface t (.pointer (some ⟨N,0,none⟩))]))):=by
 rcases h:atoiAll s.data.toList with v | _ | _
 ·exact (Any.strconv_Atoi_ok Tryz.laysC172 s (by omega) v h w).mono fun e w' ⟨h1,h2⟩=>⟨chg_bytes h2,.inl ⟨v,rfl,h1⟩⟩
 ·obtain⟨tp,p,hv⟩:=hT.syn
  exact (Any.strconv_Atoi_syntax_var Tryz.laysC172 s (by omega) h tp p w hv).mono fun e w' ⟨N,h1,_,_,h2⟩=>⟨Chg.of_below h2 _,.inr ⟨fun v=>(by simp),_,_,N,h1⟩⟩
 ·obtain⟨tp,p,hv⟩:=hT.rng
  exact (Any.strconv_Atoi_range_var Tryz.laysC172 s (by omega) h tp p w hv).mono fun e w' ⟨N,h1,_,_,h2⟩=>⟨Chg.of_below h2 _,.inr ⟨fun v=>(by simp),_,_,N,h1⟩⟩
def progEnd (d nm:List UInt8):NumEnd Int→Int
 | .ok v=>if 0≤v∧v≤1099511627776∧segName d v.toNat=nm then v else -1
 | _=>-1
theorem progBase_eq {d nm a:List UInt8}(h:trimPrefix nm (d++[47])=a):progBase d nm=if hasSuffix a dotlog=true then progEnd d nm (atoiAll (trimSuffix a dotlog)) else -1:=by
 subst h;unfold progBase;simp only
 split
 ·cases atoiAll (trimSuffix (trimPrefix nm (d++[47])) dotlog)<;>rfl
 ·rfl
theorem trimSuffix_len (a p:List UInt8):(trimSuffix a p).length≤a.length:=by
 unfold trimSuffix;split
 ·rw[List.length_take];omega
 ·exact Nat.le_refl _
theorem trimPrefix_len (a p:List UInt8):(trimPrefix a p).length≤a.length:=by
 unfold trimPrefix;split
 ·rw[List.length_drop];omega
 ·exact Nat.le_refl _
theorem progBase_any {w:World} (hT:TabE w) (d nm:ByteArray) (hd:d.size≤500) (hn:nm.size≤900) :
  Calls Tryz.prog 119 #[.string d,.string nm] w fun e w'=>e = .returned (.int .i64 (progBase d.data.toList nm.data.toList))∧Chg Nil w w':=by
 have HC:=Lib.hid (fun p=>Any.strings_CutPrefix Tryz.lays103 nm p w)
 have HT:=Lib.hid hT
 clear hT;go_enter Tryz.func119,Tryz.ntmps119
 go_wp2_with (go_at_call 184;refine (HC.out _).mono ?_;rintro e w1 ⟨rfl,rfl⟩)
 obtain⟨a,ha⟩:∃ a:List UInt8,trimPrefix nm.data.toList (d.data.toList++[47])=a:=⟨_,rfl⟩
 have hal:a.length≤900:=by
  have:=list_size nm
  rw[←ha];exact Nat.le_trans (trimPrefix_len _ _) (by omega)
 have hpb:=progBase_eq ha
 rw[ha];clear ha;have hx:(ByteArray.mk a.toArray).size=a.length:=by rw[←list_size]
 refine (Any.strings_CutSuffix Tryz.lays104 ⟨a.toArray⟩ ⟨#[46,108,111,103]⟩ w1 (by rw[hx];omega)).mono ?_
 rintro e w2 ⟨rfl,rfl⟩
 have hx2:(ByteArray.mk #[46,108,111,103]).data.toList=dotlog:=rfl
 have hx3:(ByteArray.mk a.toArray).data.toList=a:=rfl
 rw[hx2,hx3];obtain⟨b,hb⟩:∃ b:List UInt8,trimSuffix a dotlog=b:=⟨_,rfl⟩
 have hbl:b.length≤900:=by rw[←hb];exact Nat.le_trans (trimSuffix_len _ _) hal
 obtain⟨y,hy⟩:∃ y:Bool,hasSuffix a dotlog=y:=⟨_,rfl⟩
 rw[hb,hy];rw[hb,hy] at hpb;clear hb hy hx hx2 hx3 hal;have HPB:=Lib.hid hpb
 clear hpb;cases y with
 | false=>
  go_wp2_with fail;go_ret;exact⟨by rw[HPB.out];rfl,Chg.refl _ _⟩
 | true=>
  have hbs:(ByteArray.mk b.toArray).size=b.length:=by rw[←list_size]
  have HA:=Lib.hid (atoi_any HT.out ⟨b.toArray⟩ (by rw[hbs];omega))
  clear hbs;go_wp2_with (go_at_call 59;refine HA.out.mono ?_)
  rintro e w3 ⟨hc3,⟨v,hv,rfl⟩ | ⟨hv,v,t,N,rfl⟩⟩
  ·have hv:atoiAll b = .ok v:=hv
   have hpb:=HPB.out
   rw[hv,if_pos trivial] at hpb
   have HPB2:=Lib.hid hpb
   clear hpb HPB hv HA;by_cases h0:v<0
   ·go_wp2_with fail;go_ret;exact⟨by rw[HPB2.out,progEnd,if_neg (by omega)];rfl,hc3⟩
   ·by_cases h1:1099511627776<v
    ·go_wp2_with fail;go_ret;exact⟨by rw[HPB2.out,progEnd,if_neg (by omega)];rfl,hc3⟩
    ·obtain⟨n,rfl⟩:∃ n:Nat,v=n:=⟨v.toNat,by omega⟩
     have HN:=Lib.hid (name_any (HT.out.chg hc3).tabs d n (by omega) (by omega))
     obtain⟨q,hq⟩:∃ q:ByteArray,(ByteArray.mk (segName d.data.toList n).toArray)=q:=⟨_,rfl⟩
     rw[hq] at HN;have hqs:q=nm↔segName d.data.toList n=nm.data.toList:=by
      rw[←hq];constructor
      ·rintro rfl;rfl
      ·intro h;exact ba_eq h
     have HP3:Hid (progBase d.data.toList nm.data.toList=if q=nm then (n:Int) else -1):=by
      unfold Hid;rw[HPB2.out,progEnd,Int.toNat_natCast];by_cases he:q=nm
      ·rw[if_pos he,if_pos ⟨by omega,by omega,hqs.1 he⟩]
      ·rw[if_neg he,if_neg (fun h=>he (hqs.2 h.2.2))]
     clear hq hqs HPB2;by_cases he:q=nm
     ·have hne:=bytes_eqT he
      have HE:=Lib.hid he
      clear he;go_wp2_with (go_at_call 186;refine HN.out.mono ?_;rintro e w4 ⟨rfl,hc4⟩)
      go_ret;refine⟨?_,hc3.trans hc4 (fun _ h=>h.elim)⟩
      rw[HP3.out,if_pos HE.out];rfl
     ·have hne:=bytes_eqF he
      have HE:=Lib.hid he
      clear he;go_wp2_with (go_at_call 186;refine HN.out.mono ?_;rintro e w4 ⟨rfl,hc4⟩)
      go_ret;refine⟨?_,hc3.trans hc4 (fun _ h=>h.elim)⟩
      rw[HP3.out,if_neg HE.out];rfl
  ·have HV:Hid (progBase d.data.toList nm.data.toList = -1):=by
    unfold Hid;rw[HPB.out,if_pos trivial]
    rcases h:atoiAll b with v | _ | _
    ·exact absurd h (hv v)
    ·rfl
    ·rfl
   clear HPB hv HA;go_wp2_with fail;go_ret;exact⟨by rw[HV.out];rfl,hc3⟩
end Go.Proofs.YtobegmcbfgnpnaaGreatDoor
