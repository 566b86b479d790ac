/-
  A batch's bytes are read again; no beginning of them is a batch; a byte that turned is seen. Plain Lean.
-/
import Derived.Test.YtobegmcbfgnpnaaGreatDoorU28
import Derived.Lib.SlBytesConst
set_option linter.unusedVariables false
set_option linter.unusedSimpArgs false
set_option maxHeartbeats 0
set_option maxRecDepth 200000
namespace Go.Proofs.YtobegmcbfgnpnaaGreatDoor
open Go.RowKit
theorem numS_put (n:Nat) (more:List UInt8) (b:Bool)(h:n≤1099511627776):numS (put n++more,b)=(n,(more,b)):=by
 have hp:=put_length_pos n
 have e:((put n).length==0)=false:=by simp[put_ne]
 unfold numS;simp only[get_of_put n more h,e,Bool.or_false,List.drop_left]
theorem textSt_put (s:ByteArray) (more:List UInt8) (b:Bool)(h:s.size≤1099511627776):textSt (putText s++more,b)=(s.data.toList,(more,b)):=by
 have hl:s.data.toList.length=s.size:=by rw[Array.length_toList];rfl
 have e:((put s.size).length==0)=false:=by simp[put_ne]
 have e1:putText s++more=put s.size++(s.data.toList++more):=by unfold putText;rw[List.append_assoc]
 have e2:=get_of_put s.size (s.data.toList++more) h
 have e3:¬(s.data.toList++more).length<s.size:=by rw[List.length_append];omega
 unfold textSt textS textRest textBad textN;simp only[e1,e2,List.drop_left,if_neg e3,e,Bool.or_false,decide_eq_false e3]
 rw[List.take_left' hl,List.drop_left' hl]
theorem flags_le (r:Rec):r.flags≤3:=by unfold Rec.flags;split<;>split<;>omega
theorem flags_key (r:Rec):r.flags % 2=1↔r.keyed=true:=by unfold Rec.flags;cases r.keyed<;>cases r.gone<;>simp
theorem flags_gone (r:Rec):r.flags / 2 % 2=1↔r.gone=true:=by unfold Rec.flags;cases r.keyed<;>cases r.gone<;>simp
theorem decRec_enc {base en:Int}{r:Rec}(h:r.Fits base en)(h0:0≤base)(he:en≤1099511627776) (more:List UInt8) :
  decRec base (encRec base r++more,false)=(r,(more,false)):=by
 obtain⟨h1,h2,h3,h4,h5,h6,h7,h8⟩:=h
 have hf:=flags_le r
 have e1:encRec base r++more=put (r.off-base).toNat++(put r.time.toNat++(put r.flags++((if r.keyed=true then putText r.key else [])++((if r.gone=true then [] else putText r.value)++more)))):=by
  unfold encRec;simp only[List.append_assoc]
 have ek:∀ m,keyOf r.flags ((if r.keyed=true then putText r.key else [])++m,false)=(r.key.data.toList,(m,false)):=by
  intro m;unfold keyOf;by_cases hk:r.keyed=true
  ·rw[if_pos ((flags_key r).2 hk),if_pos hk,textSt_put _ _ _ (by omega)]
  ·rw[if_neg (fun h=>hk ((flags_key r).1 h)),if_neg hk]
   have:r.key.data.toList=[]:=by have:=h7 (by simpa using hk);rw[ByteArray.toList_eq] at this;exact this
   rw[this];rfl
 have ev:∀ m,valOfS r.flags ((if r.gone=true then [] else putText r.value)++m,false)=(r.value.data.toList,(m,false)):=by
  intro m;unfold valOfS;by_cases hk:r.gone=true
  ·rw[if_pos ((flags_gone r).2 hk),if_pos hk]
   have:r.value.data.toList=[]:=by have:=h8 hk;rw[ByteArray.toList_eq] at this;exact this
   rw[this];rfl
  ·rw[if_neg (fun h=>hk ((flags_gone r).1 h)),if_neg hk,textSt_put _ _ _ (by omega)]
 have eg:∀ m:List UInt8,flagS r.flags (m,false)=(m,false):=by
  intro m;unfold flagS;simp;omega
 unfold decRec;rw[e1];simp only[numS_put _ _ _ (show (r.off-base).toNat≤1099511627776 by omega),numS_put _ _ _ (show r.time.toNat≤1099511627776 by omega),numS_put _ _ _ (show r.flags≤1099511627776 by omega),eg,ek,ev]
 congr 1
 unfold mkRec;obtain⟨ro,rt,rk,rkey,rg,rv⟩:=r
 simp only[Rec.mk.injEq]
 refine⟨by simp only at h1;omega,by simp only at h3;omega,?_,?_⟩
 ·have:=flags_key ⟨ro,rt,rk,rkey,rg,rv⟩
  simp only at this
  cases rk<;>simp_all
 ·have:=flags_gone ⟨ro,rt,rk,rkey,rg,rv⟩
  simp only at this
  cases rg<;>simp_all
theorem decRecs_enc {base en:Int}(h0:0≤base)(he:en≤1099511627776) (more:List UInt8):∀ (rs acc:List Rec),(∀ r∈rs,r.Fits base en)→
  decRecs base rs.length (encRecs base rs++more,false) acc=(acc++rs,(more,false))
 | [],acc,_=>by simp[decRecs,encRecs]
 | r::rs,acc,h=>by
  rw[List.length_cons,decRecs_on rfl,encRecs,List.append_assoc,decRec_enc (h r (by simp)) h0 he,decRecs_enc h0 he more rs _ (fun x hx=>h x (by simp[hx]))]
  simp
theorem parse_enc {base en:Int}{rs:List Rec}(h:checkB base en rs=0):parse (encBody base en rs)=⟨base.toNat,(en-base).toNat,rs,([],false)⟩:=by
 obtain⟨h0,h1,h2,h3,h4,h5⟩:=checkB_zero h
 have e1:encBody base en rs=put base.toNat++(put (en-base).toNat++(put rs.length++(encRecs base rs++[]))):=by
  unfold encBody encHead;simp only[List.append_assoc,List.append_nil]
 unfold parse;rw[e1];have eb:((base.toNat:Nat):Int)=base:=by omega
 simp only[numS_put _ _ _ (show base.toNat≤1099511627776 by omega),numS_put _ _ _ (show (en-base).toNat≤1099511627776 by omega),numS_put _ _ _ (show rs.length≤1099511627776 by omega),eb,
  decRecs_enc h0 h1 [] rs [] h5,List.nil_append]
theorem fromB_four (n:Nat) (more:List UInt8)(h:n<4294967296):fromB (four n++more)=n:=by
 unfold fromB four fourAt;simp only[fromTo,List.cons_append,List.nil_append,List.getD_cons_zero,List.getD_cons_succ,UInt8.toNat_ofNat']
 omega
theorem fromB_eq (l:List UInt8):fromB l=(((l.getD 0 0).toNat*256+(l.getD 1 0).toNat)*256+(l.getD 2 0).toNat)*256+(l.getD 3 0).toNat:=by
 unfold fromB;simp only[fromTo,Nat.zero_mul,Nat.zero_add]
theorem decode_any (a:Option Addr) (l:List UInt8) (cap:Nat) (w:World)(hcap:l.length≤cap)(hl:cap≤maxLen)(hb:BytesAt w a l) :
  Calls Tryz.prog 187 #[.slice a l.length cap] w (DecPost w l):=by
 by_cases h8:l.length<8
 ·exact decode_short a l cap w h8
 ·by_cases hs:fromB l<11∨6000<fromB l∨l.length<fromB l
  ·exact decode_size a l cap w h8 (Nat.le_trans hcap hl) hb hs
  ·exact decode_long a l cap w hcap hl hb hs
theorem decErr_enc {base en:Int}{rs:List Rec}(h:encErr base en rs=0):decErr (encAll base en rs)=0∧(encAll base en rs).length=8+(encBody base en rs).length∧fromB (encAll base en rs)=8+(encBody base en rs).length∧
  parse (((encAll base en rs).take (fromB (encAll base en rs))).drop 8)=⟨base.toNat,(en-base).toNat,rs,([],false)⟩:=by
 have hc:checkB base en rs=0:=by
  unfold encErr at h;by_cases hc:checkB base en rs=0
  ·exact hc
  ·rw[if_pos hc] at h;exact absurd h hc
 have h6:8+(encBody base en rs).length≤6000:=by
  unfold encErr at h;rw[if_neg (by simpa using hc)] at h
  by_cases h6:6000<8+(encBody base en rs).length
  ·rw[if_pos h6] at h;cases h
  ·omega
 have h3:3≤(encBody base en rs).length:=by
  unfold encBody encHead;have a1:=put_length_pos base.toNat
  have a2:=put_length_pos (en-base).toNat
  have a3:=put_length_pos rs.length
  simp only[List.length_append]
  omega
 have hlen:(encAll base en rs).length=8+(encBody base en rs).length:=by unfold encAll;simp[four];omega
 have hf:fromB (encAll base en rs)=8+(encBody base en rs).length:=by
  unfold encAll;rw[List.append_assoc];exact fromB_four _ _ (by omega)
 have hs:fromB ((encAll base en rs).drop 4)=sumOf (encBody base en rs):=by
  unfold encAll;rw[List.append_assoc,List.drop_left' (by simp[four])]
  exact fromB_four _ _ (sumOf_lt _)
 have hb:(encAll base en rs).drop 8=encBody base en rs:=by
  unfold encAll;exact List.drop_left' (by simp[four])
 have ht:(encAll base en rs).take (fromB (encAll base en rs))=encAll base en rs:=List.take_of_length_le (by omega)
 obtain⟨c0,c1,c2,_⟩:=checkB_zero hc
 refine⟨?_,hlen,hf,by rw[ht,hb,parse_enc hc]⟩
 unfold decErr;rw[ht,hb,hs,if_neg (by omega),if_neg (by omega),if_neg (by omega),if_neg (by simp),parse_enc hc,if_pos]
 have e1:((base.toNat:Nat):Int)=base:=by omega
 have e2:(((en-base).toNat:Nat):Int)=en-base:=by omega
 simp only[Parsed.good,e1,e2,Bool.not_false,List.isEmpty_nil,Bool.true_and,decide_eq_true_eq]
 rw[show base+(en-base)=en by omega]
 exact hc
open Go.Maps
theorem errD_ne {k:Nat}(h:k≠0):errD k = .iface 39 (.int .i64 (k:Nat)):=if_neg h
theorem var_off {S:Nat→Prop}{w w':World}(h:Chg S w w') {n:String}{cs:Array Value}(hn:∀ g,Tryz.prog.globalNamed n=some g→¬S g)(hv:w.var? Tryz.prog n=some cs):w'.var? Tryz.prog n=some cs:=by
 unfold World.var? at *
 cases hg:Tryz.prog.globalNamed n with
 | none=>simp[hg] at hv
 | some g=>
  simp only[hg,Option.bind_some] at hv ⊢
  have hlt:g<w.heap.size:=by
   rcases Nat.lt_or_ge g w.heap.size with h' | h'
   ·exact h'
   ·rw[Array.getElem?_eq_none h'] at hv;simp at hv
  rw[h.block g hlt (hn g hg)]
  exact hv
def TabN (n:String):Prop:=n = "internal/strconv.uint64pow10"
def TabB (B:Nat→Prop):Prop:=∀ n,TabN n→∀ g,Tryz.prog.globalNamed n=some g→B g
theorem Tabs.off {S:Nat→Prop}{w w':World}(h:Tabs w) (k:Chg S w w')(hn:∀ n,TabN n→∀ g,Tryz.prog.globalNamed n=some g→¬S g):Tabs w':=by
 exact⟨var_off k (hn _ rfl) h.pow⟩
theorem var_lt {w:World}{n:String}{cs:Array Value}(hv:w.var? Tryz.prog n=some cs) {g:Nat}(hg:Tryz.prog.globalNamed n=some g):g<w.heap.size:=by
 unfold World.var? at hv
 rw[hg] at hv;simp only[Option.bind_some] at hv
 rcases Nat.lt_or_ge g w.heap.size with h' | h'
 ·exact h'
 ·rw[Array.getElem?_eq_none h'] at hv;simp at hv
structure DsS (B:Nat→Prop) (w:World) (p:Nat) (S:Nat→Prop) (d:Dk):Prop where
 lo:∀ k,B k→k<w.heap.size
 a:DiskAt w p S d
 sl:∀ k,S k→¬B k∧k<w.heap.size
theorem SgS.ds {B:Nat→Prop}{w:World}{p s:Nat}{S:Nat→Prop}{v:Value}{d:Dk}{g:Sg}(h:SgS B w p s S v d g):DsS B w p S d:=⟨h.lo,h.a,h.sl⟩
theorem DsS.nil {B:Nat→Prop}{w w':World}{p:Nat}{S:Nat→Prop}{d:Dk}(h:DsS B w p S d)(hc:Chg Nil w w'):DsS B w' p S d:=by
 have hz:=hc.size
 exact⟨fun k hk=>Nat.lt_of_lt_of_le (h.lo k hk) hz,h.a.chg hc (fun _ _ h=>h),fun k hs=>⟨(h.sl k hs).1,by have:=(h.sl k hs).2;omega⟩⟩
theorem DsS.disk {B:Nat→Prop}{w w':World}{p:Nat}{S:Nat→Prop}{d d':Dk}(h:DsS B w p S d)(ha:DiskAt w' p (Gr S w w') d')(hc:Chg S w w'):DsS B w' p (Gr S w w') d':=by
 have hz:=hc.size
 refine⟨fun k hk=>Nat.lt_of_lt_of_le (h.lo k hk) hz,ha,?_⟩
 rintro k (hs | hs)
 ·exact⟨(h.sl k hs).1,by have:=(h.sl k hs).2;omega⟩
 ·exact⟨fun hb=>by have:=h.lo k hb;have:=hs.1;omega,hs.2⟩
theorem DsS.seg {B:Nat→Prop}{w w':World}{p s:Nat}{S:Nat→Prop}{v:Value}{d:Dk}{g:Sg}(h:DsS B w p S d)(hc:Chg Nil w w')(hm:Sm w' s p v g)(hn:∀ k,SHas s v k→w.heap.size≤k):SgS B w' p s S v d g:=by
 have h2:=h.nil hc
 exact⟨h2.lo,h2.a,hm,fun k hk hs=>by have:=hn k hk;have:=(h.sl k hs).2;omega,h2.sl,fun k hk hb=>by have:=hn k hk;have:=h.lo k hb;omega⟩
theorem segName_len (dir:ByteArray) (n:Nat)(hd:dir.size≤100)(hn:n≤1099511627776):(segName dir.data.toList n).length≤1000:=by
 have h1:=dec_len 12 n (by omega)
 have h2:=list_size dir
 unfold segName pad zeros dotlog;simp only[List.length_append,List.length_replicate,List.length_cons,List.length_nil]
 omega
def MakeAt (B:Nat→Prop) (w w':World) (p:Nat) (S:Nat→Prop) (nm:List UInt8) (base:Nat) (R:Nat×Dk) (e:Ending):Prop:=
 Chg S w w'∧∃ S',DsS B w' p S' R.2∧
 ((R.1=0∧∃ s,w.heap.size≤s∧e = .returned (.tuple #[.pointer (some ⟨s,0,none⟩),.nilIface])∧SgS B w' p s S' (.slice none 0 0) R.2 ⟨nm,base,[],0⟩)∨
  (R.1≠0∧e = .returned (.tuple #[.pointer none,errD R.1])))
theorem smake_any {B:Nat→Prop} {w:World} {p:Nat} {S:Nat→Prop} {d:Dk} (h:DsS B w p S d) (hT:Tabs w) (hTB:TabB B) (dir:ByteArray) (hd:dir.size≤100) (base:Nat) (hb:base≤1099511627776) :
  Calls Tryz.prog 121 #[.pointer (some ⟨p,0,none⟩),.string dir,.int .i64 (base:Nat)] w fun e w'=>MakeAt B w w' p S (segName dir.data.toList base) base (d.make (segName dir.data.toList base)) e:=by
 have h0:¬(base:Int)<0:=by omega
 have h1:¬(1099511627776:Int)<(base:Int):=by omega
 have HNM:=Lib.hid (fun (w':World) (hT':Tabs w')=>name_any hT' dir base (by omega) hb)
 have HT:=Lib.hid hT
 have HTB:=Lib.hid hTB
 obtain⟨nm,hnm⟩:∃ nm,segName dir.data.toList base=nm:=⟨_,rfl⟩
 have hln:nm.length≤1000:=by rw[←hnm];exact segName_len dir base hd hb
 have HLN:=Lib.hid hln
 rw[hnm] at HNM;rw[hnm];have HS:=Lib.hid h
 obtain⟨R,hR⟩:∃ R,d.make nm=R:=⟨_,rfl⟩
 rw[hR];have HRR:=Lib.hid hR
 clear h hT hTB hd hb hnm hln hR;go_enter Tryz.func121,Tryz.ntmps121
 go_wp2_with fail;refine (HNM.out w HT.out).mono ?_
 rintro e w1 ⟨rfl,hc1⟩
 have HS1:=Lib.hid (HS.out.nil hc1)
 have HC1:=Lib.hid hc1
 have HOP:=Lib.hid (make_any HS1.out.a ⟨nm.toArray⟩ (by show nm.toArray.size≤4611686018427387904;simp;have:=HLN.out;omega))
 have he:d.make (ByteArray.mk nm.toArray).data.toList=d.make nm:=rfl
 rw[he,HRR.out] at HOP;clear hc1 he;go_wp2_with fail;refine HOP.out.mono ?_
 rintro e w2 ⟨rfl,h2,hc2⟩
 have HS2:=Lib.hid (HS1.out.disk h2 hc2)
 have HC2:=Lib.hid (HC1.out.weak (S':=S) (fun _ h=>h.elim) |>.trans hc2 (fun _ h=>.inl h))
 have HT2:=Lib.hid ((HT.out.chg HC1.out).off hc2 (fun n hn g hg hs=>(HS1.out.sl g hs).1 (HTB.out n hn g hg)))
 clear h2 hc2 HOP;by_cases hr:R.1=0
 ·have hev:errD R.1 = .nilIface:=by rw[hr];rfl
  rw[hev];have HR:=Lib.hid hr
  clear hev hr;go_wp2_with fail;refine (HNM.out w2 HT2.out).mono ?_
  rintro e w3 ⟨rfl,hc3⟩
  have HC3:=Lib.hid hc3
  clear hc3;go_wp2_with fail;go_ret2;have hal:=(Chg.refl Nil w3).alloc (.cells #[.pointer (some ⟨p,0,none⟩),.string ⟨nm.toArray⟩,.int .i64 (base:Nat),.slice none 0 0,.int .i64 0] 223)
  have h3:=HC2.out.size
  have h4:=HC3.out.size
  have hz:w2.heap.size≤w3.heap.size:=h4
  refine⟨(HC2.out.trans HC3.out (fun _ h=>h.elim)).trans (hal.weak (fun _ h=>h.elim)) (fun _ h=>.inl h),_,(HS2.out.nil HC3.out).nil hal,.inl ⟨HR.out,w3.heap.size,by omega,rfl,?_⟩⟩
  refine (HS2.out.nil HC3.out).seg hal ⟨Box.new w3 [.pointer (some ⟨p,0,none⟩),.string ⟨nm.toArray⟩,.int .i64 (base:Nat),.slice none 0 0,.int .i64 0] 223,OwnP.nil _⟩ ?_
  rintro k (rfl | hk)
  ·exact Nat.le_refl _
  ·simp[Value.ownBlock] at hk
 ·have hev:errD R.1 = .iface 39 (.int .i64 (R.1:Nat)):=if_neg hr
  rw[hev];have HR:=Lib.hid hr
  clear hev hr;go_wp2_with fail;go_ret2;exact⟨HC2.out,_,HS2.out,.inr ⟨HR.out,congrArg (fun v=>Ending.returned (.tuple #[.pointer none,v])) (errD_ne HR.out).symm⟩⟩
end Go.Proofs.YtobegmcbfgnpnaaGreatDoor
