/-
  The plain law of the sum: the cyclic check byte by byte, low bit first, is the document's, bit by bit, high bit first. Plain Lean: no program in sight.
-/
import Derived.Test.YtobegmcbfgnpnaaGreatDoorChecked
import Derived.Test.YtobegmcbfgnpnaaGreatDoorU14
set_option linter.unusedVariables false
set_option linter.unusedSimpArgs false
set_option maxHeartbeats 0
set_option maxRecDepth 200000
namespace Go.Proofs.YtobegmcbfgnpnaaGreatDoor
def cbit (v:Nat):Nat:=if v % 2=1 then (v / 2) ^^^ 3988292384 else v / 2
def cbits:Nat→Nat→Nat
 | 0,v=>v
 | k+1,v=>cbit (cbits k v)
def cbyte (v:Nat) (c:UInt8):Nat:=cbits 8 (v ^^^ c.toNat)
def crc (l:List UInt8):Nat:=l.foldl cbyte 4294967295
def sumOf (l:List UInt8):Nat:=4294967295 ^^^ crc l
theorem cbit_lt {v:Nat}(h:v<4294967296):cbit v<4294967296:=by
 unfold cbit;split
 ·exact Nat.xor_lt_two_pow (n:=32) (by omega) (by omega)
 ·omega
theorem cbits_lt (k:Nat) {v:Nat}(h:v<4294967296):cbits k v<4294967296:=by
 induction k with
 | zero=>exact h
 | succ k ih=>exact cbit_lt ih
theorem u8_lt (c:UInt8):c.toNat<256:=c.toNat_lt
theorem xor_byte_lt {v:Nat} (c:UInt8)(h:v<4294967296):v ^^^ c.toNat<4294967296:=
 Nat.xor_lt_two_pow (n:=32) (by omega) (by have:=u8_lt c;omega)
theorem cbyte_lt {v:Nat} (c:UInt8)(h:v<4294967296):cbyte v c<4294967296:=cbits_lt 8 (xor_byte_lt c h)
theorem crc_lt (l:List UInt8):crc l<4294967296:=by
 unfold crc;suffices h:∀ (l:List UInt8) (v:Nat),v<4294967296→l.foldl cbyte v<4294967296 from h l _ (by omega)
 intro l;induction l with
 | nil=>intro v h;exact h
 | cons c l ih=>intro v h;exact ih _ (cbyte_lt c h)
theorem crc_snoc (l:List UInt8) (c:UInt8):crc (l++[c])=cbyte (crc l) c:=by simp[crc]
theorem sumOf_lt (l:List UInt8):sumOf l<4294967296:=Nat.xor_lt_two_pow (n:=32) (by omega) (crc_lt l)
open Go.RowKit
def putText (s:ByteArray):List UInt8:=put s.size++s.data.toList
theorem i64_or_nat (a b:Nat)(ha:a<4611686018427387904)(hb:b<4611686018427387904):bits .or .i64 (a:Int) (b:Int)=((a ||| b:Nat):Int):=by
 have hor:a ||| b<2 ^ 62:=Nat.or_lt_two_pow (by omega) (by omega)
 show IntKind.i64.wrap ((BitVec.ofInt 64 (a:Int) ||| BitVec.ofInt 64 (b:Int)).toNat:Nat)=_
 rw[BitVec.toNat_or,BitVec.ofInt_natCast,BitVec.ofInt_natCast,BitVec.toNat_ofNat,BitVec.toNat_ofNat,Nat.mod_eq_of_lt (by omega),Nat.mod_eq_of_lt (by omega)]
 generalize a ||| b=x at *;rw[IntKind.wrap_i64];omega
theorem wrap64_nat {x:Nat}(h:x<9223372036854775808):wrap64 (x:Int)=(x:Int):=by
 unfold wrap64;omega
theorem or7 {n c k:Nat}(hn:n<128 ^ k)(hc:c<256)(hk:k≤5) :
  bits .or .i64 (n:Int) (wrap64 (wrap64 (bits .and .u8 (c:Int) 127)*2 ^ (7*k)))=((n+c % 128*128 ^ k:Nat):Int):=by
 have h1:bits .and .u8 (c:Int) 127=((c % 128:Nat):Int):=by
  rw[u8_and _ _ (by omega) (by omega) (by omega) (by omega),Int.toNat_natCast]
  have:(127:Int).toNat=2 ^ 7-1:=by decide
  rw[this,Nat.and_two_pow_sub_one_eq_mod]
 have e7:(128:Nat) ^ k=2 ^ (7*k):=by rw[Nat.pow_mul]
 have e7i:(2:Int) ^ (7*k)=((128 ^ k:Nat):Int):=by rw[e7];norm_cast
 have hor:n ||| (c % 128*128 ^ k)=n+c % 128*128 ^ k:=by
  rw[Nat.or_comm,Nat.add_comm,Nat.mul_comm,e7,←Nat.two_pow_add_eq_or_of_lt (by rw[←e7];exact hn)]
 have hp:(128:Nat) ^ k≤34359738368:=Nat.le_trans (Nat.pow_le_pow_right (by omega) hk) (by decide)
 rw[h1,e7i];clear e7 e7i h1;generalize 128 ^ k=p at *;have hx:c % 128<128:=Nat.mod_lt _ (by omega)
 generalize c % 128=x at *;have hm:x*p≤127*34359738368:=Nat.mul_le_mul (by omega) hp
 rw[wrap64_nat (by omega),←Int.natCast_mul,wrap64_nat (by omega),←hor]
 exact i64_or_nat _ _ (by omega) (by omega)
theorem get_any (a:Option Addr) (l:List UInt8) (cap:Nat) (w:World) (hl:l.length≤maxLen) (hc:BytesAt w a l) :
  Calls Tryz.prog 250 #[.slice a l.length cap] w fun e w'=>e = .returned (.tuple #[.int .i64 (get l).1,.int .i64 (get l).2])∧w=w':=by
 unfold maxLen at hl;go_enter Tryz.func250,Tryz.ntmps250
 go_wp2
 go_loop [2,8] (fun v i=>∃ k:Nat,k≤l.length∧k≤6∧i = .int .i64 k∧v = .int .i64 (val (l.take k):Nat)∧Hid (getAt l (6-k) k=get l)∧Hid (∀ x∈l.take k,128≤x.toNat)) (fun _ i=>l.length-(intOf i).toNat)
 case atStart=>exact⟨0,by omega,by omega,rfl,rfl,rfl,by intro x hx;simp at hx⟩
 case round=>
  obtain⟨k,hk,hk6,rfl,rfl,HG,HH⟩:=hrel
  by_cases hlt:k<l.length
  ·obtain⟨b,off,rfl,hcell⟩:=hc k hlt
   clear hc;unfold bval at hcell;by_cases h5:5<k
   ·have HZ:Hid (get l=(0,0)):=by
     have:6-k=0:=by omega
     rw[←HG.out,this];rfl
    go_wp2_with fail;go_ret2;exact⟨by rw[HZ.out];rfl,rfl⟩
   ·have hc8:=u8_lt' l[k]
    have hv:=val_lt (l.take k)
    rw[List.length_take,Nat.min_eq_left hk] at hv
    have hor:=or7 hv hc8 (by omega)
    have hs:l.take (k+1)=l.take k++[l[k]]:=take_snoc l k hlt
    have hvs:=val_snoc (l.take k) l[k]
    rw[←hs,List.length_take,Nat.min_eq_left hk] at hvs
    rw[←hvs] at hor;have HE:Hid (∀ (_:l[k].toNat<128) (_:l[k]=0∧0<k∨1099511627776<val (l.take (k+1))),get l=(0,0)):=by
     intro h1 h2;rw[←HG.out,show 6-k=(5-k)+1 by omega,getAt_end hlt h1 h2]
    have HO:Hid (∀ (_:l[k].toNat<128) (_:¬(l[k]=0∧0<k∨1099511627776<val (l.take (k+1)))),get l=(val (l.take (k+1)),k+1)):=by
     intro h1 h2;rw[←HG.out,show 6-k=(5-k)+1 by omega,getAt_ok hlt h1 h2]
    have HN:Hid (¬l[k].toNat<128→getAt l (6-(k+1)) (k+1)=get l):=by
     intro h1;rw[←HG.out,show 6-k=(5-k)+1 by omega,getAt_on hlt h1,show 6-(k+1)=5-k by omega]
    have HS:Hid (l.take (k+1)=l.take k++[l[k]]):=hs
    clear hvs hs;have hz:(l[k]=0)↔l[k].toNat=0:=by rw[←UInt8.toNat_inj];rfl
    have HZ:=Lib.hid hz
    clear hz;generalize l[k]=c at *;by_cases hc1:c.toNat<128
    ·generalize val (l.take (k+1))=m at *;generalize val (l.take k)=n at *
     by_cases h0:c.toNat=0
     ·have hb:((c.toNat:Int)==0)=true:=by rw[h0];rfl
      have H0:=Lib.hid h0
      clear h0;by_cases hk0:0<k
      ·have HR:Hid (get l=(0,0)):=HE.out hc1 (.inl ⟨HZ.out.2 H0.out,hk0⟩)
       go_wp2_with fail;go_ret2;exact⟨by rw[HR.out];rfl,rfl⟩
      ·by_cases hm:1099511627776<m
       ·have HR:Hid (get l=(0,0)):=HE.out hc1 (.inr hm)
        go_wp2_with fail;go_ret2;exact⟨by rw[HR.out];rfl,rfl⟩
       ·have HR:Hid (get l=(m,k+1)):=HO.out hc1 (fun h=>h.elim (fun h=>hk0 h.2) hm)
        go_wp2_with fail;go_ret2;exact⟨by rw[HR.out];rfl,rfl⟩
     ·have hb:((c.toNat:Int)==0)=false:=by simp;omega
      by_cases hm:1099511627776<m
      ·have HR:Hid (get l=(0,0)):=HE.out hc1 (.inr hm)
       go_wp2_with fail;go_ret2;exact⟨by rw[HR.out];rfl,rfl⟩
      ·have HR:Hid (get l=(m,k+1)):=HO.out hc1 (fun h=>h.elim (fun h=>h0 (HZ.out.1 h.1)) hm)
       go_wp2_with fail;go_ret2;exact⟨by rw[HR.out];rfl,rfl⟩
    ·go_wp2_with fail;all_goals
      go_round
      case rel=>exact⟨k+1,by omega,by omega,by go_num,rfl,HN.out hc1,by
       intro x hx;rw[HS.out] at hx;rcases List.mem_append.1 hx with hx | hx
       ·exact HH.out x hx
       ·simp only[List.mem_singleton] at hx;subst hx;omega⟩
      case measure=>simp[intOf];omega
  ·have HZ:Hid (get l=(0,0)):=by rw[←HG.out,getAt_none (by omega)];rfl
   go_wp2
   go_ret2;exact⟨by rw[HZ.out];rfl,rfl⟩
def fourAt (n k:Nat):UInt8:=UInt8.ofNat (n / 2 ^ (8*(3-k)))
def four (n:Nat):List UInt8:=[fourAt n 0,fourAt n 1,fourAt n 2,fourAt n 3]
theorem BytesAt.drop {w:World}{b off:Nat}{l:List UInt8}(h:BytesAt w (some ⟨b,off,none⟩) l) (k:Nat):BytesAt w (some ⟨b,off+k,none⟩) (l.drop k):=by
 intro i hi;rw[List.length_drop] at hi;obtain⟨b2,off2,h1,h2⟩:=h (k+i) (by omega)
 cases h1
 exact⟨b,off+k,rfl,by rw[List.getElem_drop,Nat.add_assoc];exact h2⟩
theorem BytesAt.take {w:World}{a:Option Addr}{l:List UInt8}(h:BytesAt w a l) (k:Nat):BytesAt w a (l.take k):=by
 intro i hi;rw[List.length_take] at hi;obtain⟨b2,off2,h1,h2⟩:=h i (by omega)
 exact⟨b2,off2,h1,by rw[List.getElem_take];exact h2⟩
def fromTo (l:List UInt8):Nat→Nat
 | 0=>0
 | k+1=>fromTo l k*256+(l.getD k 0).toNat
def fromB (l:List UInt8):Nat:=fromTo l 4
theorem fromTo_lt (l:List UInt8) (k:Nat):fromTo l k<256 ^ k:=by
 induction k with
 | zero=>simp[fromTo]
 | succ k ih=>
  rw[fromTo,Nat.pow_succ];have:=u8_lt' (l.getD k 0)
  omega
theorem or8 {n c:Nat}(hn:n<16777216)(hc:c<256):bits .or .i64 ((n:Int)*256) (c:Int)=((n*256+c:Nat):Int):=by
 have e1:(n:Int)*256=((n*256:Nat):Int):=by omega
 have hor:n*256 ||| c=n*256+c:=by
  rw[Nat.mul_comm];exact (Nat.two_pow_add_eq_or_of_lt (i:=8) (b:=c) (by omega) n).symm
 rw[e1,←hor];exact i64_or_nat _ _ (by omega) (by omega)
theorem from_any (a:Option Addr) (l:List UInt8) (cap:Nat) (w:World) (hl:l.length≤maxLen) (h4:4≤l.length) (hc:BytesAt w a l) :
  Calls Tryz.prog 226 #[.slice a l.length cap] w fun e w'=>e = .returned (.int .i64 (fromB l:Nat))∧w=w':=by
 unfold maxLen at hl;go_enter Tryz.func226,Tryz.ntmps226
 go_wp2
 go_loop [3,5] (fun v i=>∃ k:Nat,k≤4∧i = .int .i64 k∧v = .int .i64 (fromTo l k:Nat)) (fun _ i=>4-(intOf i).toNat)
 case atStart=>exact⟨0,by omega,rfl,rfl⟩
 case round=>
  obtain⟨k,hk,rfl,rfl⟩:=hrel
  by_cases hlt:k<4
  ·obtain⟨b,off,rfl,hcell⟩:=hc k (by omega)
   unfold bval at hcell;have hn:fromTo l k<16777216:=Nat.lt_of_lt_of_le (fromTo_lt l k) (Nat.le_trans (Nat.pow_le_pow_right (n:=256) (by omega) (show k≤3 by omega)) (by decide))
   have HS:Hid (fromTo l (k+1)=fromTo l k*256+(l[k]'(by omega)).toNat):=by
    unfold Hid;rw[fromTo,List.getD_eq_getElem?_getD,List.getElem?_eq_getElem (by omega)]
    rfl
   have hc8:=u8_lt' (l[k]'(by omega))
   clear hc;have hkl:(k:Int)<(l.length:Int):=by omega
   generalize l[k]'(by omega)=c at *;generalize fromTo l k=x at *
   have HO:=Lib.hid (or8 hn hc8)
   go_wp2
   go_round
   case rel=>exact⟨k+1,by omega,by go_num,by rw[HS.out,←HO.out]⟩
   case measure=>simp[intOf];omega
  ·have:k=4:=by omega
   subst this;go_wp2
   go_ret;exact⟨rfl,rfl⟩
def Rec.flags (r:Rec):Nat:=(if r.keyed=true then 1 else 0)+(if r.gone=true then 2 else 0)
def encRec (base:Int) (r:Rec):List UInt8:=
 put (r.off-base).toNat++put r.time.toNat++put r.flags++(if r.keyed=true then putText r.key else [])++(if r.gone=true then [] else putText r.value)
def encRecs (base:Int):List Rec→List UInt8
 | []=>[]
 | r::rs=>encRec base r++encRecs base rs
def encHead (base en:Int) (n:Nat):List UInt8:=put base.toNat++put (en-base).toNat++put n
def encBody (base en:Int) (rs:List Rec):List UInt8:=encHead base en rs.length++encRecs base rs
def encAll (base en:Int) (rs:List Rec):List UInt8:=
 four (8+(encBody base en rs).length)++four (sumOf (encBody base en rs))++encBody base en rs
def encErr (base en:Int) (rs:List Rec):Nat:=
 if checkB base en rs≠0 then checkB base en rs else if 6000<8+(encBody base en rs).length then 4 else 0
structure Rec.Fits (base en:Int) (r:Rec):Prop where
 lo:base≤r.off
 hi:r.off<en
 t0:0≤r.time
 t1:r.time≤1099511627776
 key:r.key.size≤60
 value:r.value.size≤500
 nokey:r.keyed=false→r.key.toList=[]
 novalue:r.gone=true→r.value.toList=[]
theorem fits_of_check {base en:Int}:∀ {last:Int}{rs:List Rec},checkRecs en last rs=0→base-1≤last→∀ r∈rs,r.Fits base en
 | last,[],_,_=>by simp
 | last,r::rs,h,hl=>by
  unfold checkRecs at h;by_cases h1:badArg last en r=true
  ·rw[if_pos h1] at h;cases h
  ·rw[if_neg h1] at h
   by_cases h2:badLen r=true
   ·rw[if_pos h2] at h;cases h
   ·rw[if_neg h2] at h
    by_cases h3:badTime r=true
    ·rw[if_pos h3] at h;cases h
    ·rw[if_neg h3] at h
     simp only[badArg,badLen,badTime,Bool.or_eq_true,decide_eq_true_eq,Bool.and_eq_true,Bool.not_eq_true',not_or,not_and,Bool.not_eq_false] at h1 h2 h3
     obtain⟨⟨⟨a1,a2⟩,a3⟩,a4⟩:=h1
     have hr:r.Fits base en:=⟨by omega,by omega,by omega,by omega,by omega,by omega,
      fun hk=>by simpa using a3 hk,fun hg=>by simpa using a4 hg⟩
     intro x hx;rcases List.mem_cons.1 hx with rfl | hx
     ·exact hr
     ·exact fits_of_check h (by have:=hr.lo;omega) x hx
theorem checkB_zero {base en:Int}{rs:List Rec}(h:checkB base en rs=0):0≤base∧en≤1099511627776∧base<en∧rs.length≤50∧en-base≤50∧∀ r∈rs,r.Fits base en:=by
 unfold checkB at h;by_cases h1:base<0∨1099511627776<en
 ·rw[if_pos h1] at h;cases h
 ·rw[if_neg h1] at h
  by_cases h2:en≤base
  ·rw[if_pos h2] at h;cases h
  ·rw[if_neg h2] at h
   by_cases h3:50<rs.length∨50<en-base
   ·rw[if_pos h3] at h;cases h
   ·rw[if_neg h3] at h
    exact⟨by omega,by omega,by omega,by omega,by omega,fits_of_check h (by omega)⟩
theorem test_u32 {x:Nat}(hx:x<4294967296):(bits .and .u32 (x:Int) 1==1)=decide (x % 2=1):=by
 rw[u32_and _ _ (by omega) (by omega) (by omega) (by omega)]
 simp only[Int.toNat_natCast,show (1:Int).toNat=1 from rfl,Nat.and_one_is_mod]
 rw[Bool.eq_iff_iff];simp;omega
theorem cbit_yes {x:Nat}(hx:x<4294967296)(h:(bits .and .u32 (x:Int) 1==1)=true):bits .xor .u32 ((x:Int) / 2) 3988292384=((cbit x:Nat):Int):=by
 rw[test_u32 hx] at h
 have h1:x % 2=1:=by simpa using h
 have e:(x:Int) / 2=((x / 2:Nat):Int):=by omega
 rw[e,u32_xor _ _ (by omega) (by omega) (by omega) (by omega),Int.toNat_natCast]
 unfold cbit;rw[if_pos h1]
 rfl
theorem cbit_no {x:Nat}(hx:x<4294967296)(h:(bits .and .u32 (x:Int) 1==1)=false):(x:Int) / 2=((cbit x:Nat):Int):=by
 rw[test_u32 hx] at h
 have h1:¬x % 2=1:=by simpa using h
 unfold cbit;rw[if_neg h1]
 omega
theorem xor_u32 {x y:Nat}(hx:x<4294967296)(hy:y<4294967296):bits .xor .u32 (x:Int) (y:Int)=((x ^^^ y:Nat):Int):=by
 rw[u32_xor _ _ (by omega) (by omega) (by omega) (by omega)]
 simp
theorem not_u32 {x:Nat}(hx:x<4294967296):bits .xor .u32 4294967295 (x:Int)=((4294967295 ^^^ x:Nat):Int):=by
 rw[u32_xor _ _ (by omega) (by omega) (by omega) (by omega)]
 simp
theorem sum_end (l:List UInt8):wrap64 (bits .xor .u32 IntKind.u32.max (crc l:Nat))=((sumOf l:Nat):Int):=by
 have e:IntKind.u32.max=4294967295:=by decide
 rw[e,not_u32 (crc_lt l)]
 have:=sumOf_lt l
 unfold sumOf at *
 unfold wrap64;omega
theorem sum_any (a:Option Addr) (l:List UInt8) (cap:Nat) (w:World)(hl:l.length≤maxLen)(hc:BytesAt w a l) :
  Calls Tryz.prog 140 #[.slice a l.length cap] w fun e w'=>e = .returned (.int .i64 (sumOf l:Nat))∧w=w':=by
 unfold maxLen at hl;go_enter Tryz.func140,Tryz.ntmps140
 go_wp2
 go_loop [3,9] (fun v i=>∃ k:Nat,k≤l.length∧i = .int .i64 k∧v = .int .u32 (crc (l.take k):Nat)) (fun _ i=>l.length-(intOf i).toNat)
 case atStart=>exact⟨0,Nat.zero_le _,rfl,rfl⟩
 case round=>
  obtain⟨k,hk,rfl,rfl⟩:=hrel
  by_cases hlt:k<l.length
  ·have hsn:=crc_snoc (l.take k) l[k]
   have hts:=take_snoc l k hlt
   obtain⟨b,off,rfl,hcell⟩:=hc k hlt
   have HS:Hid (crc (l.take (k+1))=cbyte (crc (l.take k)) l[k]):=by rw[hts];exact hsn
   have hx:=crc_lt (l.take k)
   clear hc hsn hts;unfold bval at hcell;have hc8:=u8_lt l[k]
   generalize l[k]=c at *;generalize crc (l.take k)=x at *
   have hxc:=xor_byte_lt c hx
   have hxor:bits .xor .u32 (x:Int) (c.toNat:Int)=((x ^^^ c.toNat:Nat):Int):=xor_u32 hx (by omega)
   go_wp2
   go_loop [3,17] (fun v i=>∃ m:Nat,m≤8∧i = .int .i64 m∧v = .int .u32 (cbits m (x ^^^ c.toNat):Nat)) (fun _ i=>8-(intOf i).toNat)
   case atStart=>exact⟨0,by omega,rfl,rfl⟩
   case round=>
    obtain⟨m,hm,rfl,rfl⟩:=hrel
    have hy:=cbits_lt m hxc
    have HY:Hid (cbits (m+1) (x ^^^ c.toNat)=cbit (cbits m (x ^^^ c.toNat))):=rfl
    clear hxor;by_cases hlt2:m<8
    ·generalize cbits m (x ^^^ c.toNat)=y at *;go_wp2
     all_goals
      go_round
      case rel=>exact⟨m+1,by omega,by go_num,by rw[HY.out];first | rw[cbit_yes hy ‹_›] | rw[cbit_no hy ‹_›]⟩
      case measure=>simp[intOf];omega
    ·have:m=8:=by omega
     subst this;go_wp2
     go_round
     case rel=>exact⟨k+1,by omega,by go_num,by rw[HS.out];rfl⟩
     case measure=>simp[intOf];omega
  ·have hkl:k=l.length:=by omega
   have hx:=crc_lt (l.take k)
   have HT:Hid (l.take k=l):=List.take_of_length_le (by omega)
   clear hkl;go_wp2
   go_ret;exact⟨ret_int (by rw[HT.out,sum_end]),rfl⟩
end Go.Proofs.YtobegmcbfgnpnaaGreatDoor
