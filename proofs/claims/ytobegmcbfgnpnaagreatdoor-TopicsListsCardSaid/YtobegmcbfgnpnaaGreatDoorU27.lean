/-
  The walks of the reader: num, text.
-/
import Derived.Test.YtobegmcbfgnpnaaGreatDoorU26
set_option linter.unusedVariables false
set_option linter.unusedSimpArgs false
set_option maxHeartbeats 0
set_option maxRecDepth 200000
namespace Go.Proofs.YtobegmcbfgnpnaaGreatDoor
open Go.RowKit
structure Rd (w:World) (g b off cap:Nat) (l:List UInt8) (bad:Bool):Prop where
 ne:b≠g
 fits:l.length≤cap
 most:cap≤maxLen
 c0:w.cell? ⟨g,0,none⟩=some (.slice (some ⟨b,off,none⟩) l.length cap)
 c1:w.cell? ⟨g,1,none⟩=some (.bool bad)
 f0:w.frozen? ⟨g,0,none⟩=false
 f1:w.frozen? ⟨g,1,none⟩=false
 bytes:BytesAt w (some ⟨b,off,none⟩) l
theorem Rd.move {w w':World}{g b off cap:Nat}{l:List UInt8}{bad bad':Bool}(h:Rd w g b off cap l bad) (k off':Nat)(hk:k≤l.length)(ho:k<cap→off'=off+k)
  (c0:w'.cell? ⟨g,0,none⟩=some (.slice (some ⟨b,off',none⟩) (l.length-k) (cap-k))) (c1:w'.cell? ⟨g,1,none⟩=some (.bool bad'))(hf:∀ q,w'.frozen? q=w.frozen? q)(hc:Chg (fun i=>i=g) w w') :
  Rd w' g b off' (cap-k) (l.drop k) bad':=by
 refine⟨h.ne,by rw[List.length_drop];have:=h.fits;omega,by have:=h.most;omega,by rw[List.length_drop];exact c0,c1,by rw[hf];exact h.f0,by rw[hf];exact h.f1,?_⟩
 have hb:=hc.bytesAt h.bytes (fun x hx e=>h.ne (by cases hx;exact e))
 by_cases hkc:k<cap
 ·rw[ho hkc];exact hb.drop k
 ·intro i hi;rw[List.length_drop] at hi;have:=h.fits
  omega
theorem num_any (g b off cap:Nat) (l:List UInt8) (bad:Bool) (w:World) (h:Rd w g b off cap l bad) :
  Calls Tryz.prog 227 #[.pointer (some ⟨g,0,none⟩)] w fun e w'=>e = .returned (.int .i64 (get l).1)∧Chg (fun k=>k=g) w w'∧∃ off2,Rd w' g b off2 (cap-(get l).2) (l.drop (get l).2) (bad||(get l).2==0):=by
 have HR:=Lib.hid h
 obtain⟨hne,hfit,hmost,hc0,hc1,hf0,hf1,hb⟩:=h
 have hgs:=(get_size l).1
 have hG:=Lib.hid (get_any (some ⟨b,off,none⟩) l cap w (Nat.le_trans hfit hmost) hb)
 clear hb hmost hne;go_enter Tryz.func227,Tryz.ntmps227
 go_wp2_with fail;refine hG.out.mono ?_
 rintro e w1 ⟨rfl,rfl⟩
 generalize hn:(get l).1=n at *;generalize hs:(get l).2=s at *
 have HN:=Lib.hid hn
 have HS:=Lib.hid hs
 clear hn hs hG;by_cases h0:s=0
 ·subst h0;go_wp2
  go_ret;refine⟨by rw[HN.out];rfl,((Chg.refl (fun k=>k=g) _).setCell (.inl rfl) _).setCell (.inl rfl) _,off,?_⟩
  rw[HS.out];refine HR.out.move 0 off (Nat.zero_le _) (fun _=>rfl) (by rw[cell_set (cell_set hc0)];rfl) (by rw[cell_set (cell_set hc1)];simp) (fun q=>by rw[frozen_set,frozen_set]) (((Chg.refl (fun k=>k=g) _).setCell (.inl rfl) _).setCell (.inl rfl) _)
 ·have hs0:((s:Int)==0)=false:=by simp;omega
  by_cases hcs:cap=s
  ·have hx:=HR.out
   subst hcs;go_wp2
   go_ret;refine⟨by rw[HN.out];rfl,(Chg.refl (fun k=>k=g) _).setCell (.inl rfl) _,off,?_⟩
   rw[HS.out];refine hx.move cap off hgs (fun h=>by omega) (by rw[cell_set hc0,show l.length-cap=0 by omega,Nat.sub_self];rfl) (by rw[cell_set hc1];simp[h0]) (fun q=>by rw[frozen_set]) ((Chg.refl (fun k=>k=g) _).setCell (.inl rfl) _)
  ·go_wp2
   go_ret;refine⟨by rw[HN.out];rfl,(Chg.refl (fun k=>k=g) _).setCell (.inl rfl) _,off+s,?_⟩
   rw[HS.out];refine HR.out.move s (off+s) hgs (fun _=>rfl) (by rw[cell_set hc0];rfl) (by rw[cell_set hc1];simp[h0]) (fun q=>by rw[frozen_set]) ((Chg.refl (fun k=>k=g) _).setCell (.inl rfl) _)
def textN (l:List UInt8):Nat:=if (l.drop (get l).2).length<(get l).1 then 0 else (get l).1
def textS (l:List UInt8):List UInt8:=(l.drop (get l).2).take (textN l)
def textRest (l:List UInt8):List UInt8:=(l.drop (get l).2).drop (textN l)
def textBad (l:List UInt8) (bad:Bool):Bool:=bad||(get l).2==0||decide ((l.drop (get l).2).length<(get l).1)
theorem rtext_any (g b off cap:Nat) (l:List UInt8) (bad:Bool) (w:World) (h:Rd w g b off cap l bad) :
  Calls Tryz.prog 228 #[.pointer (some ⟨g,0,none⟩)] w fun e w'=>e = .returned (.string ⟨(textS l).toArray⟩)∧Chg (fun k=>k=g) w w'∧∃ off2 cap2,Rd w' g b off2 cap2 (textRest l) (textBad l bad):=by
 go_enter Tryz.func228,Tryz.ntmps228
 go_wp2_with fail;refine (num_any g b off cap l bad w h).mono ?_
 rintro e w1 ⟨rfl,hch,off2,hR⟩
 have HS:Hid (textS l=(l.drop (get l).2).take (textN l)):=rfl
 have HT:Hid (textRest l=(l.drop (get l).2).drop (textN l)):=rfl
 have HB:Hid (textBad l bad=(bad||(get l).2==0||decide ((l.drop (get l).2).length<(get l).1))):=rfl
 have HN:Hid (textN l=if (l.drop (get l).2).length<(get l).1 then 0 else (get l).1):=rfl
 have hn40:=get_le l
 generalize (bad||(get l).2==0)=bad1 at *;generalize cap-(get l).2=cap1 at *
 generalize l.drop (get l).2=l1 at *;generalize (get l).1=n at *
 clear h;have HR:=Lib.hid hR
 obtain⟨hne,hfit,hmost,hc0,hc1,hf0,hf1,hb⟩:=hR
 by_cases hn:l1.length<n
 ·have hcv:=conv_bytes (w:=w1.setCell ⟨g,1,none⟩ (.bool true)) (dst:=9) Tryz.underlying29 Tryz.underlying5 Tryz.underlying9
   (show BytesAt (w1.setCell ⟨g,1,none⟩ (.bool true)) (some ⟨b,off2,none⟩) [] from fun i hi=>absurd hi (Nat.not_lt_zero _)) cap1
  have HN0:Hid (textN l=0):=by unfold Hid;rw[HN.out,if_pos hn]
  have HB0:Hid (textBad l bad=true):=by unfold Hid;rw[HB.out];simp[hn]
  rw[List.length_nil] at hcv;clear hb hmost hne;go_wp2_with fail;go_ret;refine⟨by rw[HS.out,HN0.out];rfl,hch.trans (((Chg.refl (fun k=>k=g) _).setCell (.inl rfl) _).setCell (.inl rfl) _) (fun _ h=>.inl h),off2,cap1,?_⟩
  rw[HT.out,HN0.out,HB0.out];refine HR.out.move 0 off2 (Nat.zero_le _) (fun _=>rfl) (by rw[cell_set (cell_set hc0)];rfl) (by rw[cell_set (cell_set hc1)];rfl) (fun q=>by rw[frozen_set,frozen_set]) (((Chg.refl (fun k=>k=g) _).setCell (.inl rfl) _).setCell (.inl rfl) _)
 ·have hb2:=hb.take n
  have hle:(l1.take n).length=n:=by rw[List.length_take];omega
  have hcv:=conv_bytes (dst:=9) Tryz.underlying29 Tryz.underlying5 Tryz.underlying9 hb2 cap1
  rw[hle] at hcv;have HN0:Hid (textN l=n):=by unfold Hid;rw[HN.out,if_neg hn]
  have HB0:Hid (textBad l bad=bad1):=by unfold Hid;rw[HB.out];simp[hn]
  clear hb hmost hne hle hb2;by_cases hcs:cap1=n
  ·have hx:=HR.out
   subst hcs;go_wp2_with fail;go_ret;refine⟨by rw[HS.out,HN0.out];rfl,hch.trans ((Chg.refl (fun k=>k=g) _).setCell (.inl rfl) _) (fun _ h=>.inl h),off2,cap1-cap1,?_⟩
   rw[HT.out,HN0.out,HB0.out];refine hx.move cap1 off2 (by omega) (fun h=>by omega) (by rw[cell_set hc0,show l1.length-cap1=0 by omega,Nat.sub_self];rfl) (by rw[cell_set hc1];rfl) (fun q=>by rw[frozen_set]) ((Chg.refl (fun k=>k=g) _).setCell (.inl rfl) _)
  ·go_wp2_with fail;go_ret;refine⟨by rw[HS.out,HN0.out];rfl,hch.trans ((Chg.refl (fun k=>k=g) _).setCell (.inl rfl) _) (fun _ h=>.inl h),off2+n,cap1-n,?_⟩
   rw[HT.out,HN0.out,HB0.out];refine HR.out.move n (off2+n) (by omega) (fun _=>rfl) (by rw[cell_set hc0];rfl) (by rw[cell_set hc1];rfl) (fun q=>by rw[frozen_set]) ((Chg.refl (fun k=>k=g) _).setCell (.inl rfl) _)
theorem recsT:SliceT Tryz.prog 62 61 6 64:=
 ⟨Tryz.underlying62,by
  have h:(Tryz.prog.info? 61).map (fun i=>(i.zero,i.size,i.bytes))=some (some (.agg #[.int .i64 0,.int .i64 0,.bool false,.string ⟨#[]⟩,.bool false,.string ⟨#[]⟩]),6,64):=by kernel_rfl
  obtain⟨i,hi,hz,h1,h2⟩:=info_parts h
  exact⟨i,_,hi,hz,rfl,h1,h2⟩⟩
theorem Rec.cells_one (r:Rec):∀ u∈r.cells,u.oneCell'=true:=by
 intro u hu;simp only[Rec.cells,List.mem_cons,List.not_mem_nil,or_false] at hu
 rcases hu with rfl | rfl | rfl | rfl | rfl | rfl<;>rfl
def OwnR (e:TypeId) (w:World) (v:Value) (rs:List Rec):Prop:=w.ownsRow 0 e 6 v rs.length (rs.flatMap Rec.cells)
theorem OwnR.nil (e:TypeId) (w:World):OwnR e w (.slice none 0 0) []:=World.ownsRow_nil w 0 e 6
abbrev St:=List UInt8×Bool
def numS (s:St):Nat×St:=((get s.1).1,(s.1.drop (get s.1).2,s.2||(get s.1).2==0))
def textSt (s:St):List UInt8×St:=(textS s.1,(textRest s.1,textBad s.1 s.2))
def keyOf (f:Nat) (s:St):List UInt8×St:=if f % 2=1 then textSt s else ([],s)
def valOfS (f:Nat) (s:St):List UInt8×St:=if f / 2 % 2=1 then ([],s) else textSt s
def flagS (f:Nat) (s:St):St:=(s.1,s.2||decide (3<f))
def mkRec (base:Int) (o t f:Nat) (k v:List UInt8):Rec:={ off:=base+o,time:=t,keyed:=decide (f % 2=1),key:=⟨k.toArray⟩,gone:=decide (f / 2 % 2=1),value:=⟨v.toArray⟩ }
def decRec (base:Int) (s:St):Rec×St:=
 let a:=numS s
 let b:=numS a.2
 let f:=numS b.2
 let k:=keyOf f.1 (flagS f.1 f.2)
 let v:=valOfS f.1 k.2
 (mkRec base a.1 b.1 f.1 k.1 v.1,v.2)
def decRecs (base:Int):Nat→St→List Rec→List Rec×St
 | 0,s,acc=>(acc,s)
 | n+1,s,acc=>if s.2=true then (acc,s) else decRecs base n (decRec base s).2 (acc++[(decRec base s).1])
theorem decRecs_bad {base:Int}{n:Nat}{s:St}{acc:List Rec}(h:s.2=true):decRecs base n s acc=(acc,s):=by
 cases n with
 | zero=>rfl
 | succ n=>rw[decRecs,if_pos h]
theorem decRecs_on {base:Int}{n:Nat}{s:St}{acc:List Rec}(h:s.2=false):decRecs base (n+1) s acc=decRecs base n (decRec base s).2 (acc++[(decRec base s).1]):=by
 rw[decRecs,if_neg (by rw[h];simp)]
structure Parsed where
 base:Nat
 len:Nat
 recs:List Rec
 st:St
def parse (l:List UInt8):Parsed:=
 let b:=numS (l,false)
 let e:=numS b.2
 let n:=numS e.2
 let r:=decRecs b.1 n.1 n.2 []
 { base:=b.1,len:=e.1,recs:=r.1,st:=r.2 }
def Parsed.good (p:Parsed):Bool:=!p.st.2&&p.st.1.isEmpty&&decide (checkB p.base ((p.base:Int)+p.len) p.recs=0)
def decErr (l:List UInt8):Nat:=
 if l.length<8 then 12 else if fromB l<11∨6000<fromB l then 3 else if l.length<fromB l then 12
 else if sumOf ((l.take (fromB l)).drop 8)≠fromB (l.drop 4) then 3
 else if (parse ((l.take (fromB l)).drop 8)).good=true then 0 else 3
theorem numS_le (s:St):(numS s).1≤1099511627776:=get_le s.1
theorem numS_len (s:St):(numS s).2.1.length≤s.1.length:=by
 unfold numS;rw[List.length_drop];omega
theorem cells_get (rs:List Rec):∀ (i:Nat)(hi:i<rs.length) (j:Nat) (u:Value),rs[i].cells[j]? = some u→(rs.flatMap Rec.cells)[i*6+j]? = some u:=by
 induction rs with
 | nil=>intro i hi;simp at hi
 | cons r rs ih=>
  intro i hi j u hj;rw[List.flatMap_cons];cases i with
  | zero=>
   have hj6:j<r.cells.length:=by
    have h:r.cells[j]? = some u:=hj
    exact (List.getElem?_eq_some_iff.1 h).1
   rw[Nat.zero_mul,Nat.zero_add,List.getElem?_append_left hj6]
   exact hj
  | succ i=>
   have h6:r.cells.length=6:=rfl
   rw[List.getElem?_append_right (by omega),show (i+1)*6+j-r.cells.length=i*6+j by omega]
   exact ih i (by simpa using hi) j u hj
theorem OwnR.recs {e:TypeId}{w:World}{v:Value}{rs:List Rec}(h:OwnR e w v rs):∃ a cap,v = .slice a rs.length cap∧RecsAt w a rs∧rs.length≤cap:=by
 rcases h.2 with ⟨rfl,hn⟩ | ⟨g,cap,cur,rfl,_,_,hle,_⟩
 ·refine⟨none,0,by rw[hn],fun i hi=>by omega,by omega⟩
 ·refine⟨some ⟨g,0,none⟩,cap,rfl,fun i hi=>⟨g,0,rfl,fun j u hj=>?_⟩,hle⟩
  have:=World.ownsRow.cells h (g:=g) rfl (i*6+j) u (cells_get rs i hi j u hj)
  have e1:(⟨g,0,none⟩:Addr).add (i*6+j)=⟨g,i*6+j,none⟩:=by unfold Addr.add;split<;>simp_all
  rw[e1] at this;rw[Nat.zero_add];exact this
theorem textSt_le (s:St):(textSt s).1.length≤s.1.length∧(textSt s).2.1.length≤s.1.length:=by
 unfold textSt textS textRest;simp only[List.length_take,List.length_drop]
 omega
theorem keyOf_le (f:Nat) (s:St):(keyOf f s).1.length≤s.1.length∧(keyOf f s).2.1.length≤s.1.length:=by
 unfold keyOf;by_cases h:f % 2=1
 ·rw[if_pos h];exact textSt_le s
 ·rw[if_neg h];exact⟨Nat.zero_le _,Nat.le_refl _⟩
theorem valOfS_le (f:Nat) (s:St):(valOfS f s).1.length≤s.1.length∧(valOfS f s).2.1.length≤s.1.length:=by
 unfold valOfS;by_cases h:f / 2 % 2=1
 ·rw[if_pos h];exact⟨Nat.zero_le _,Nat.le_refl _⟩
 ·rw[if_neg h];exact textSt_le s
theorem decRec_ok {base:Int}{s:St}(h0:0≤base)(h1:base≤1099511627776)(hs:s.1.length≤maxLen):(decRec base s).1.Ok∧(decRec base s).2.1.length≤s.1.length:=by
 have a1:=numS_le s
 have a2:=numS_len s
 have b1:=numS_le (numS s).2
 have b2:=numS_len (numS s).2
 have c2:=numS_len (numS (numS s).2).2
 have k:=keyOf_le (numS (numS (numS s).2).2).1 (flagS (numS (numS (numS s).2).2).1 (numS (numS (numS s).2).2).2)
 have v:=valOfS_le (numS (numS (numS s).2).2).1 (keyOf (numS (numS (numS s).2).2).1 (flagS (numS (numS (numS s).2).2).1 (numS (numS (numS s).2).2).2)).2
 have hf:(flagS (numS (numS (numS s).2).2).1 (numS (numS (numS s).2).2).2).1=(numS (numS (numS s).2).2).2.1:=rfl
 rw[hf] at k;have hsz:∀ l:List UInt8,(⟨l.toArray⟩:ByteArray).size=l.length:=fun l=>List.size_toArray
 refine⟨⟨?_,?_,?_,?_⟩,?_⟩
 ·unfold decRec mkRec;simp only;omega
 ·unfold decRec mkRec;simp only;omega
 ·unfold decRec mkRec;simp only[hsz];omega
 ·unfold decRec mkRec;simp only[hsz];omega
 ·unfold decRec;simp only;omega
theorem decRecs_ok {base:Int}(h0:0≤base)(h1:base≤1099511627776):∀ {n:Nat}{s:St}{acc:List Rec},s.1.length≤maxLen→(∀ r∈acc,r.Ok)→∀ r∈(decRecs base n s acc).1,r.Ok
 | 0,s,acc,_,h=>h
 | n+1,s,acc,hs,h=>by
  by_cases hb:s.2=true
  ·rw[decRecs_bad hb];exact h
  ·rw[decRecs_on (by simpa using hb)]
   obtain⟨k1,k2⟩:=decRec_ok h0 h1 hs
   refine decRecs_ok h0 h1 (by omega) ?_
   intro r hr;rcases List.mem_append.1 hr with hr | hr
   ·exact h r hr
   ·rw[List.mem_singleton.1 hr];exact k1
theorem and_nat (a b:Nat)(ha:a<4611686018427387904)(hb:b<4611686018427387904):bits .and .i64 (a:Int) (b:Int)=((a &&& b:Nat):Int):=by
 have hand:a &&& b<2 ^ 62:=Nat.and_lt_two_pow a (by omega)
 show IntKind.i64.wrap ((BitVec.ofInt 64 (a:Int) &&& BitVec.ofInt 64 (b:Int)).toNat:Nat)=_
 rw[BitVec.toNat_and,BitVec.ofInt_natCast,BitVec.ofInt_natCast,BitVec.toNat_ofNat,BitVec.toNat_ofNat,Nat.mod_eq_of_lt (by omega),Nat.mod_eq_of_lt (by omega)]
 generalize a &&& b=x at *;rw[IntKind.wrap_i64];omega
theorem flag1 (f:Nat)(h:f≤1099511627776):(bits .and .i64 (f:Int) 1 != 0)=decide (f % 2=1):=by
 have e:bits .and .i64 (f:Int) 1=((f % 2:Nat):Int):=by
  have:=and_nat f 1 (by omega) (by omega)
  rw[nat_mask1] at this;exact this
 rw[e];have:f % 2=0∨f % 2=1:=by omega
 rcases this with h | h<;>rw[h]<;>decide
theorem flag2 (f:Nat)(h:f≤1099511627776):(bits .and .i64 (f:Int) 2 != 0)=decide (f / 2 % 2=1):=by
 have e:bits .and .i64 (f:Int) 2=((f / 2 % 2*2:Nat):Int):=by
  have:=and_nat f 2 (by omega) (by omega)
  rw[show (2:Nat)=2 ^ 1 from rfl,nat_bit] at this
  exact this
 rw[e];have:f / 2 % 2=0∨f / 2 % 2=1:=by omega
 rcases this with h | h<;>rw[h]<;>decide
end Go.Proofs.YtobegmcbfgnpnaaGreatDoor
