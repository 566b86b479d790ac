/-
  Plain facts on the names of segments' files: a name is read back; two ways of reading a name are one. Of no program.
-/
import Derived.Lib.ItoaMem
import Derived.Lib.AtoiTie
import Derived.Lib.ParseIntBTie
import Derived.Lib.TrimByte
import Derived.Lib.Repeat
set_option linter.unusedVariables false
set_option linter.unusedSimpArgs false
set_option maxHeartbeats 0
set_option maxRecDepth 200000
namespace Go.Proofs.YtobegmcbfgnpnaaGreatDoor
open Go.Lib
theorem decFrom_app (l m:List UInt8):∀ a,decFrom a (l++m)=(decFrom a l).bind fun b=>decFrom b m:=by
 induction l with
 | nil=>intro a;rfl
 | cons x r ih=>
  intro a;simp only[List.cons_append,decFrom]
  cases digitVal x with
  | none=>rfl
  | some d=>exact ih _
theorem decFrom_zeros (k:Nat):decFrom 0 (List.replicate k 48)=some 0:=by
 induction k with
 | zero=>rfl
 | succ k ih=>
  rw[List.replicate_succ];simp only[decFrom]
  have:digitVal 48=some 0:=by decide
  rw[this];exact ih
theorem digit_of (u:Nat)(h:u<10):digitVal (UInt8.ofNat (48+u))=some u:=by
 have e:(UInt8.ofNat (48+u)).toNat=48+u:=by rw[UInt8.toNat_ofNat'];omega
 unfold digitVal;rw[e,if_pos (by omega)]
 congr 1
 omega
theorem dec_step {u:Nat}(h:¬u<10):decDigits u=decDigits (u / 10)++[UInt8.ofNat (48+u % 10)]:=by
 rw[decDigits,dif_neg h]
theorem dec_one {u:Nat}(h:u<10):decDigits u=[UInt8.ofNat (48+u)]:=by
 rw[decDigits,dif_pos h]
theorem dec_back (u:Nat):decFrom 0 (decDigits u)=some u:=by
 induction u using Nat.strongRecOn with
 | ind u ih=>
  by_cases h:u<10
  ·rw[dec_one h]
   simp only[decFrom,digit_of u h]
   simp
  ·rw[dec_step h,decFrom_app,ih (u / 10) (by omega)]
   simp only[Option.bind_some,decFrom,digit_of (u % 10) (by omega)]
   congr 1
   omega
theorem dec_len:∀ (k u:Nat),u<10 ^ (k+1)→(decDigits u).length≤k+1
 | 0,u,h=>by rw[dec_one (by simpa using h)];simp
 | k+1,u,h=>by
  by_cases h10:u<10
  ·rw[dec_one h10];simp
  ·rw[dec_step h10,List.length_append,List.length_singleton]
   have:=dec_len k (u / 10) (by rw[Nat.pow_succ] at h;omega)
   omega
theorem dec_ne (u:Nat):decDigits u≠[]:=by
 intro h;have:=dec_back u
 by_cases h10:u<10
 ·rw[dec_one h10] at h;cases h
 ·rw[dec_step h10] at h;simp at h
def zeros (n:Nat):List UInt8:=List.replicate (10-(decDigits n).length) 48
def pad (n:Nat):List UInt8:=zeros n++decDigits n
def dotlog:List UInt8:=[46,108,111,103]
def segName (d:List UInt8) (n:Nat):List UInt8:=d++[47]++pad n++dotlog
theorem pad_len {n:Nat}(h:n≤1099511627776):(pad n).length≤13:=by
 unfold pad zeros;rw[List.length_append,List.length_replicate];have:=dec_len 12 n (by omega)
 omega
theorem pad_dec (n:Nat):decNat (pad n)=some n:=by
 have h:decFrom 0 (pad n)=some n:=by
  unfold pad zeros;rw[decFrom_app,decFrom_zeros];exact dec_back n
 unfold decNat;have:(pad n).isEmpty=false:=by
  unfold pad;cases hd:zeros n++decDigits n with
  | nil=>exact absurd (List.append_eq_nil_iff.1 hd).2 (dec_ne n)
  | cons _ _=>rfl
 rw[this];simpa using h
theorem atoi_of_dec {l:List UInt8}{n:Nat}(h:decNat l=some n):atoi l=some (n:Int):=by
 cases l with
 | nil=>simp[decNat] at h
 | cons b r=>
  have h0:decFrom 0 (b::r)=some n:=by
   unfold decNat at h;simpa using h
  obtain⟨d,hd⟩:=digit_of_decFrom _ _ _ h0 0 b rfl
  have hne:b≠45∧b≠43:=by
   constructor<;>(rintro rfl;simp[digitVal] at hd)
  unfold atoi;simp[hne.1,hne.2,h]
theorem pad_atoi {n:Nat}(h:n≤1099511627776):atoiAll (pad n) = .ok (n:Int):=by
 rw[atoiAll_short _ (by have:=pad_len h;omega),atoi_of_dec (pad_dec n)]
 rfl
def progBase (d nm:List UInt8):Int:=
 let s:=trimPrefix nm (d++[47])
 if hasSuffix s dotlog then
  match atoiAll (trimSuffix s dotlog) with
  | .ok v=>if 0≤v∧v≤1099511627776∧segName d v.toNat=nm then v else -1
  | _=>-1
 else -1
theorem cut_pre (p l:List UInt8):trimPrefix (p++l) p=l:=by
 unfold trimPrefix hasPrefix;rw[if_pos (by simp),List.drop_left]
theorem has_suf (l p:List UInt8):hasSuffix (l++p) p=true:=by
 unfold hasSuffix;simp
theorem cut_suf (l p:List UInt8):trimSuffix (l++p) p=l:=by
 unfold trimSuffix;rw[if_pos (has_suf l p),List.length_append,Nat.add_sub_cancel,List.take_left]
theorem segName_eq (d:List UInt8) (n:Nat):segName d n=(d++[47])++(pad n++dotlog):=by
 unfold segName;rw[List.append_assoc]
theorem prog_hit (d:List UInt8) {n:Nat}(h:n≤1099511627776):progBase d (segName d n)=n:=by
 unfold progBase;simp only
 rw[show trimPrefix (segName d n) (d++[47])=pad n++dotlog by rw[segName_eq];exact cut_pre _ _]
 rw[has_suf,cut_suf,pad_atoi h]
 simp only[if_true]
 rw[if_pos ⟨by omega,by omega,by rw[Int.toNat_natCast]⟩]
theorem prog_miss {d nm:List UInt8}(h:∀ n:Nat,n≤1099511627776→segName d n≠nm):progBase d nm = -1:=by
 unfold progBase;simp only
 split
 ·split
  ·rename_i v _
   rw[if_neg (fun ⟨h0,h1,h2⟩=>h v.toNat (by omega) h2)]
  ·rfl
 ·rfl
end Go.Proofs.YtobegmcbfgnpnaaGreatDoor
