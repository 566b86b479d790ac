/-
  The walk of Decode.
-/
import Derived.Test.YtobegmcbfgnpnaaGreatDoorU25
import Derived.Test.YtobegmcbfgnpnaaGreatDoorU27
set_option linter.unusedVariables false
set_option linter.unusedSimpArgs false
set_option maxHeartbeats 0
set_option maxRecDepth 200000
namespace Go.Proofs.YtobegmcbfgnpnaaGreatDoor
open Go.RowKit
def RdS (w:World) (g b:Nat) (s:St):Prop:=∃ off cap,Rd w g b off cap s.1 s.2
theorem RdS.chg {S:Nat→Prop}{w w':World}{g b:Nat}{s:St}(h:RdS w g b s)(hc:Chg S w w')(hg:¬S g)(hb:¬S b):RdS w' g b s:=by
 obtain⟨off,cap,h⟩:=h
 have hlt:=World.block_lt_of_cell? _ _ h.c0
 exact⟨off,cap,h.ne,h.fits,h.most,hc.cell h.c0 hg,hc.cell h.c1 hg,(hc.frozen (a:=⟨g,0,none⟩) hlt hg).trans h.f0,(hc.frozen (a:=⟨g,1,none⟩) hlt hg).trans h.f1,hc.bytesAt h.bytes (fun x hx=>by cases hx;exact hb)⟩
theorem num_st (g b:Nat) (s:St) (w:World)(h:RdS w g b s) :
  Calls Tryz.prog 227 #[.pointer (some ⟨g,0,none⟩)] w fun e w'=>e = .returned (.int .i64 (numS s).1)∧Chg (fun k=>k=g) w w'∧RdS w' g b (numS s).2:=by
 obtain⟨off,cap,h⟩:=h
 refine (num_any g b off cap s.1 s.2 w h).mono ?_
 rintro e w' ⟨rfl,hc,off2,h2⟩
 exact⟨rfl,hc,off2,_,h2⟩
theorem text_st (g b:Nat) (s:St) (w:World)(h:RdS w g b s) :
  Calls Tryz.prog 228 #[.pointer (some ⟨g,0,none⟩)] w fun e w'=>e = .returned (.string ⟨(textSt s).1.toArray⟩)∧Chg (fun k=>k=g) w w'∧RdS w' g b (textSt s).2:=by
 obtain⟨off,cap,h⟩:=h
 refine (rtext_any g b off cap s.1 s.2 w h).mono ?_
 rintro e w' ⟨rfl,hc,off2,cap2,h2⟩
 exact⟨rfl,hc,off2,cap2,h2⟩
def DecPost (w:World) (l:List UInt8) (e:Ending) (w':World):Prop:=
 Chg Nil w w'∧((decErr l≠0∧e = .returned (.tuple #[.agg #[.int .i64 0,.int .i64 0,.slice none 0 0],.int .i64 0,errV 39 (decErr l)]))∨
  (decErr l=0∧∃ v,e = .returned (.tuple #[.agg #[.int .i64 ((parse ((l.take (fromB l)).drop 8)).base:Nat),.int .i64 (((parse ((l.take (fromB l)).drop 8)).base:Int)+((parse ((l.take (fromB l)).drop 8)).len:Nat)),v],.int .i64 (fromB l:Nat),.nilIface])∧
   OwnR 61 w' v (parse ((l.take (fromB l)).drop 8)).recs∧∀ k,v.ownBlock=some k→w.heap.size≤k))
theorem decode_short (a:Option Addr) (l:List UInt8) (cap:Nat) (w:World) (h8:l.length<8) :
  Calls Tryz.prog 187 #[.slice a l.length cap] w (DecPost w l):=by
 have HE:Hid (decErr l=12):=by unfold Hid decErr;rw[if_pos h8]
 go_enter Tryz.func187,Tryz.ntmps187
 go_wp2
 refine bodyPost_ret (v:=.tuple #[.agg #[.int .i64 0,.int .i64 0,.slice none 0 0],.int .i64 0,.iface 39 (.int .i64 12)]) (by simp[results,Tryz.results187,go_sem]) rfl ⟨(Chg.refl _ _).alloc _,.inl ⟨by rw[HE.out];simp,by rw[HE.out];rfl⟩⟩
theorem decode_size (a:Option Addr) (l:List UInt8) (cap:Nat) (w:World) (h8:¬l.length<8) (hl:l.length≤maxLen) (hb:BytesAt w a l) (hs:fromB l<11∨6000<fromB l∨l.length<fromB l) :
  Calls Tryz.prog 187 #[.slice a l.length cap] w (DecPost w l):=by
 have HF:=Lib.hid (fun w' h=>from_any a l cap w' hl (by omega) h)
 have HB:=Lib.hid hb
 clear hb;unfold maxLen at hl;have hE:(fromB l<11∨6000<fromB l)→decErr l=3:=fun h=>by unfold decErr;rw[if_neg h8,if_pos h]
 have hE2:¬(fromB l<11∨6000<fromB l)→l.length<fromB l→decErr l=12:=fun h h'=>by unfold decErr;rw[if_neg h8,if_neg h,if_pos h']
 have HE:=Lib.hid hE
 have HE2:=Lib.hid hE2
 clear hE hE2;generalize hn:fromB l=n at *;clear hn;go_enter Tryz.func187,Tryz.ntmps187
 go_wp2_with fail;refine (HF.out _ (((Chg.refl Nil _).alloc _).bytesAt HB.out (fun _ _ h=>h))).mono ?_
 rintro e w1 ⟨rfl,rfl⟩
 by_cases h1:n<11
 ·have HX:Hid (decErr l=3):=HE.out (.inl h1)
  clear hs;go_wp2_with fail;exact bodyPost_ret (v:=.tuple #[.agg #[.int .i64 0,.int .i64 0,.slice none 0 0],.int .i64 0,.iface 39 (.int .i64 3)]) (by simp[results,Tryz.results187,go_sem]) rfl ⟨(Chg.refl _ _).alloc _,.inl ⟨by rw[HX.out];simp,by rw[HX.out];rfl⟩⟩
 ·by_cases h2:6000<n
  ·have HX:Hid (decErr l=3):=HE.out (.inr h2)
   clear hs;go_wp2_with fail;exact bodyPost_ret (v:=.tuple #[.agg #[.int .i64 0,.int .i64 0,.slice none 0 0],.int .i64 0,.iface 39 (.int .i64 3)]) (by simp[results,Tryz.results187,go_sem]) rfl ⟨(Chg.refl _ _).alloc _,.inl ⟨by rw[HX.out];simp,by rw[HX.out];rfl⟩⟩
  ·have h3:l.length<n:=by omega
   have HX:Hid (decErr l=12):=HE2.out (by omega) h3
   clear hs;go_wp2_with fail;exact bodyPost_ret (v:=.tuple #[.agg #[.int .i64 0,.int .i64 0,.slice none 0 0],.int .i64 0,.iface 39 (.int .i64 12)]) (by simp[results,Tryz.results187,go_sem]) rfl ⟨(Chg.refl _ _).alloc _,.inl ⟨by rw[HX.out];simp,by rw[HX.out];rfl⟩⟩
theorem BytesAt.some {w:World}{a:Option Addr}{l:List UInt8}(h:BytesAt w a l)(h0:0<l.length):∃ b off,a=some ⟨b,off,none⟩:=by
 obtain⟨b,off,ha,_⟩:=h 0 h0
 exact⟨b,off,ha⟩
theorem decode_long (a:Option Addr) (l:List UInt8) (cap:Nat) (w:World) (hcap:l.length≤cap) (hl:cap≤maxLen) (hb:BytesAt w a l) (hs:¬(fromB l<11∨6000<fromB l∨l.length<fromB l)) :
  Calls Tryz.prog 187 #[.slice a l.length cap] w (DecPost w l):=by
 obtain⟨b,off,rfl⟩:=hb.some (by omega)
 have HF:=Lib.hid (fun w' h=>from_any (some ⟨b,off,none⟩) l cap w' (by omega) (by omega) h)
 have HB:=Lib.hid hb
 have HS:Hid (decErr l=if sumOf ((l.take (fromB l)).drop 8)≠fromB (l.drop 4) then 3 else if (parse ((l.take (fromB l)).drop 8)).good=true then 0 else 3):=by
  unfold Hid decErr;rw[if_neg (by omega),if_neg (by omega),if_neg (by omega)]
 have HP:∀ e w',(Chg Nil w w'∧((decErr l≠0∧e = .returned (.tuple #[.agg #[.int .i64 0,.int .i64 0,.slice none 0 0],.int .i64 0,errV 39 (decErr l)]))∨
  (decErr l=0∧∃ v,e = .returned (.tuple #[.agg #[.int .i64 ((parse ((l.take (fromB l)).drop 8)).base:Nat),.int .i64 (((parse ((l.take (fromB l)).drop 8)).base:Int)+((parse ((l.take (fromB l)).drop 8)).len:Nat)),v],.int .i64 (fromB l:Nat),.nilIface])∧
   OwnR 61 w' v (parse ((l.take (fromB l)).drop 8)).recs∧∀ k,v.ownBlock=some k→w.heap.size≤k)))→DecPost w l e w':=fun e w' h=>h
 have hlb:((l.take (fromB l)).drop 8).length=fromB l-8:=by rw[List.length_drop,List.length_take];omega
 unfold maxLen at hl;clear hb;generalize hn:fromB l=n at *;clear hn;have hc8:¬cap=8:=by omega
 have hc4:¬cap=4:=by omega
 have hnc:n≤cap:=by omega
 have h8n:(8:Int)≤n:=by omega
 have h4n:(4:Int)≤l.length:=by omega
 have HBody:Hid ((l.take n).drop 8=(l.take n).drop 8):=rfl
 go_enter Tryz.func187,Tryz.ntmps187
 go_wp2_with fail;have hbA:BytesAt (w.alloc (.cells #[.int .i64 0,.int .i64 0,.slice none 0 0] 142)) (some ⟨b,off,none⟩) l:=((Chg.refl Nil _).alloc _).bytesAt HB.out (fun _ _ h=>h)
 refine (HF.out _ hbA).mono ?_
 rintro e w1 ⟨rfl,rfl⟩
 have HBA:=Lib.hid hbA
 clear hbA;go_upto_region 8 with fail;refine Ch.wp_region_chain _ (Chg (Nil)) [] (fun _ _=>True) (by kernel_rfl) (fun _=>Chg.refl _ _) (fun _ _ _ h k=>h.trans k (fun _ h=>.inl h)) [[],[],[0,1],[2],[],[4],[5],[3,6]] rfl (by kernel_rfl) (by kernel_rfl) (Chg.refl _ _).drew ?_ ?_
 ·trivial
 iterate 3 ((with_reducible apply Ch.Walk.eq);(case hd=>rfl);(case hi=>rfl);case h=>(intro w2 hw2 N hN;simp only[Ch.depB];go_simp;(try go_bits);with_reducible exact hN _ (Chg.refl _ _) (fun _ h=>h)))
 ·with_reducible apply Ch.Walk.eq
  case hd=>rfl
  case hi=>rfl
  case h=>
   intro w2 hw2 N hN;simp only[Ch.depB,Ch.depC,Nat.reduceBEq,Nat.reduceAdd]
   go_simp;have hby:BytesAt w2 (some ⟨b,off+8,none⟩) ((l.take n).drop 8):=((hw2.bytesAt HBA.out (fun _ _ h=>h)).take n).drop 8
   rw[←hlb];refine (sum_any (some ⟨b,off+8,none⟩) _ (cap-8) w2 (by unfold maxLen;omega) hby).mono ?_
   rintro e w4 ⟨rfl,rfl⟩
   exact⟨_,rfl,hN _ (Chg.refl _ _) (fun _ h=>h)⟩
  iterate 2 ((with_reducible apply Ch.Walk.eq);(case hd=>rfl);(case hi=>rfl);case h=>(intro w2 hw2 N hN;simp only[Ch.depB];go_simp;(try go_bits);with_reducible exact hN _ (Chg.refl _ _) (fun _ h=>h)))
  with_reducible apply Ch.Walk.eq
  case hd=>rfl
  case hi=>rfl
  case h=>
   intro w2 hw2 N hN;simp only[Ch.depB,Ch.depC,Nat.reduceBEq,Nat.reduceAdd]
   go_simp;have hby:BytesAt w2 (some ⟨b,off+4,none⟩) (l.drop 4):=(hw2.bytesAt HBA.out (fun _ _ h=>h)).drop 4
   rw[←List.length_drop];refine (from_any (some ⟨b,off+4,none⟩) _ (cap-4) w2 (by rw[List.length_drop];unfold maxLen;omega) (by rw[List.length_drop];omega) hby).mono ?_
   rintro e w4 ⟨rfl,rfl⟩
   exact⟨_,rfl,hN _ (Chg.refl _ _) (fun _ h=>h)⟩
  ((with_reducible apply Ch.Walk.eq);(case hd=>rfl);(case hi=>rfl);case h=>(intro w2 hw2 N hN;simp only[Ch.depB];go_simp;(try go_bits);with_reducible exact hN _ (Chg.refl _ _) (fun _ h=>h)))
  intro w2 hw2;simp only[List.nil_append,List.cons_append,Ch.Fin,List.map_cons,List.map_nil,List.getD_cons_zero,List.getD_cons_succ]
  go_simp;have hz:Box w2 w.heap.size [.int .i64 0,.int .i64 0,.slice none 0 0] 142:=(Box.new w [.int .i64 0,.int .i64 0,.slice none 0 0] 142).chg hw2 (fun h=>h)
  have hch2:Chg Nil w w2:=((Chg.refl Nil _).alloc _).trans hw2 (fun _ h=>.inl h)
  have hbW:BytesAt w2 (some ⟨b,off+8,none⟩) ((l.take n).drop 8):=((hw2.bytesAt HBA.out (fun _ _ h=>h)).take n).drop 8
  have HBW:=Lib.hid hbW
  have hbk:b<w2.heap.size:=by
   obtain⟨b',off',hbb,hcc⟩:=hbW 0 (by omega)
   cases hbb
   exact World.block_lt_of_cell? _ _ hcc
  clear HBA hw2 HB HF hbW;by_cases hsum:sumOf ((l.take n).drop 8)=fromB (l.drop 4)
  ·have HX:Hid (decErr l=if (parse ((l.take n).drop 8)).good=true then 0 else 3):=by unfold Hid;rw[HS.out,if_neg (by simpa using hsum)]
   clear HS hs;generalize sumOf ((l.take n).drop 8)=s1 at *
   generalize fromB (l.drop 4)=s2 at *;generalize (l.take n).drop 8=B at *
   subst hsum;have hgsz:b<w2.heap.size:=hbk
   have hrd:RdS (w2.alloc (.cells #[.slice (some ⟨b,off+8,none⟩) (n-8) (cap-8),.bool false] 307)) w2.heap.size b (B,false):=by
    have hx:=BoxAt.new w2 [.slice (some ⟨b,off+8,none⟩) (n-8) (cap-8),.bool false] 307
    have hbx:Box _ w2.heap.size _ _:=Box.new w2 [.slice (some ⟨b,off+8,none⟩) (n-8) (cap-8),.bool false] 307
    refine⟨off+8,cap-8,by omega,by rw[hlb];omega,by unfold maxLen;omega,?_,hbx.cell (j:=1) rfl,hbx.free 0,hbx.free 1,((Chg.refl Nil _).alloc _).bytesAt HBW.out (fun _ _ h=>h)⟩
    rw[hlb];exact hbx.cell (j:=0) rfl
   have HRD:=Lib.hid hrd
   have hchR:Chg Nil w (w2.alloc (.cells #[.slice (some ⟨b,off+8,none⟩) (n-8) (cap-8),.bool false] 307)):=hch2.alloc _
   have hzR:=hz.chg ((Chg.refl Nil w2).alloc (.cells #[.slice (some ⟨b,off+8,none⟩) (n-8) (cap-8),.bool false] 307)) (fun h=>h)
   have hgw:w2.heap.size<(w2.alloc (.cells #[.slice (some ⟨b,off+8,none⟩) (n-8) (cap-8),.bool false] 307)).heap.size:=by simp
   have hwg:w.heap.size<w2.heap.size:=(Array.getElem?_eq_some_iff.1 hz).1
   clear hrd;go_wp2_with fail;clear hz hch2 HBW hlb;generalize (w2.alloc (.cells #[.slice (some ⟨b,off+8,none⟩) (n-8) (cap-8),.bool false] 307))=w3 at *
   generalize w2.heap.size=g at *;refine (num_st g b (B,false) w3 HRD.out).mono ?_
   rintro e w4 ⟨rfl,hc4,hr4⟩
   have HR4:=Lib.hid hr4
   clear hr4;go_upto_region 12 with fail;have e1:numS (B,false)=((numS (B,false)).1,(numS (B,false)).2):=rfl
   have hbase:=numS_le (B,false)
   have hlen:=numS_le (numS (B,false)).2
   have HPB:Hid ((parse B).base=(numS (B,false)).1):=rfl
   have HPL:Hid ((parse B).len=(numS (numS (B,false)).2).1):=rfl
   have HPR:Hid ((parse B).recs=(decRecs (numS (B,false)).1 (numS (numS (numS (B,false)).2).2).1 (numS (numS (numS (B,false)).2).2).2 []).1):=rfl
   have HPS:Hid ((parse B).st=(decRecs (numS (B,false)).1 (numS (numS (numS (B,false)).2).2).1 (numS (numS (numS (B,false)).2).2).2 []).2):=rfl
   have HGD:Hid ((parse B).good=(!(parse B).st.2&&(parse B).st.1.isEmpty&&decide (checkB (parse B).base (((parse B).base:Int)+(parse B).len) (parse B).recs=0))):=rfl
   clear e1;generalize numS (B,false)=p0 at *
   obtain⟨base,s1⟩:=p0
   simp only at hbase hlen HPB HPL HPR HPS HR4
   have hxb:Box (w4.alloc (.cells #[.int .i64 base,.int .i64 0,.slice none 0 0] 142)) w4.heap.size [.int .i64 base,.int .i64 0,.slice none 0 0] 142:=Box.new w4 [.int .i64 base,.int .i64 0,.slice none 0 0] 142
   have hr5:RdS (w4.alloc (.cells #[.int .i64 base,.int .i64 0,.slice none 0 0] 142)) g b s1:=HR4.out.chg ((Chg.refl Nil _).alloc _) (fun h=>h) (fun h=>h)
   have hz5:=(hzR.chg hc4 (by omega)).chg ((Chg.refl Nil w4).alloc (.cells #[.int .i64 base,.int .i64 0,.slice none 0 0] 142)) (fun h=>h)
   have hch5:Chg Nil w (w4.alloc (.cells #[.int .i64 base,.int .i64 0,.slice none 0 0] 142)):=(hchR.trans hc4 (fun i hi=>.inr (by omega))).alloc _
   have hx4:g<w4.heap.size:=by have:=hc4.size;omega
   have HRD5:=Lib.hid hr5
   clear hr5 HR4 HRD hzR hchR hc4 hgw;have hxs:w4.heap.size<(w4.alloc (.cells #[.int .i64 base,.int .i64 0,.slice none 0 0] 142)).heap.size:=by simp
   generalize (w4.alloc (.cells #[.int .i64 base,.int .i64 0,.slice none 0 0] 142))=w5 at *;generalize w4.heap.size=x at *
   refine Ch.wp_region_last _ _ rfl (Chg (fun k=>k=g)) [3] (fun vs w=>match vs with | []=>RdS w g b s1 | _=>RdS w g b (numS s1).2) (by kernel_rfl) (fun _=>Chg.refl _ _) (fun _ _ _ h k=>h.trans k (fun _ h=>.inl h)) [[],[0],[],[2],[1,3],[]] rfl (by kernel_rfl) (by kernel_rfl) (by kernel_rfl) (Chg.refl _ _).drew ?_ ?_
   ·exact HRD5.out.chg (Chg.refl Nil _).drew (fun h=>h) (fun h=>h)
   simp only[List.dropLast_cons_cons,List.dropLast_singleton]
   iterate 3 ((with_reducible apply Ch.Walk.eq);(case hd=>rfl);(case hi=>rfl);case h=>(intro w2 hw2 N hN;(have hx:=hxb.chg hw2 (by omega);have hx0:=hx.cell (j:=0) rfl;clear hx);simp only[Ch.depB];go_simp;(try go_bits);with_reducible exact hN _ (Chg.refl _ _) (fun _ h=>h)))
   refine Ch.Walk.chainE 0 (c:=.int .i64 ((numS s1).1:Nat)) rfl rfl ?_ ?_
   ·intro w6 hw6 vs hvs hF N hN;obtain rfl:=List.eq_nil_of_length_eq_zero hvs
    simp only[Ch.depB,Ch.depC,Nat.reduceBEq,Nat.reduceAdd]
    go_simp;refine (num_st g b s1 w6 hF).mono ?_
    rintro e w7 ⟨rfl,hc,hr⟩
    exact⟨_,rfl,hN _ hc hr⟩
   iterate 2 ((with_reducible apply Ch.Walk.eq);(case hd=>rfl);(case hi=>rfl);case h=>(intro w2 hw2 N hN;simp only[Ch.depB];go_simp;(try go_bits);with_reducible exact hN _ (Chg.refl _ _) (fun _ h=>h)))
   intro w6 hw6;simp only[List.nil_append,List.cons_append,Ch.Fin,List.map_cons,List.map_nil,List.getD_cons_zero,List.getD_cons_succ]
   intro hF;simp only[Ch.Then,Oper.wp]
   have hx6:=hxb.chg hw6 (by omega)
   have c6:=hx6.cell (j:=1) rfl
   have f6:=hx6.free 1
   go_simp;have hx7:Box (w6.setCell ⟨x,1,none⟩ (.int .i64 ((base:Int)+(numS s1).1))) x [.int .i64 base,.int .i64 ((base:Int)+(numS s1).1),.slice none 0 0] 142:=hx6.set 1 _
   have hc7:Chg (fun k=>k=g∨k=x) w5 (w6.setCell ⟨x,1,none⟩ (.int .i64 ((base:Int)+(numS s1).1))):=(hw6.weak (fun i hi=>.inl (.inl hi))).setCell (.inl (.inr rfl)) _
   have hr7:RdS (w6.setCell ⟨x,1,none⟩ (.int .i64 ((base:Int)+(numS s1).1))) g b (numS s1).2:=RdS.chg (S:=fun k=>k=x) hF ((Chg.refl (fun k=>k=x) _).setCell (.inl rfl) _) (by omega) (by omega)
   have hz7:=hz5.chg hc7 (by omega)
   have hch7:=hch5.trans hc7 (fun i hi=>.inr (by omega))
   have hx7s:x<(w6.setCell ⟨x,1,none⟩ (.int .i64 ((base:Int)+(numS s1).1))).heap.size:=by have:=hc7.size;omega
   have HR7:=Lib.hid hr7
   clear hr7 hF hx6 c6 f6 hw6 hz5 hch5 hc7 hxb HRD5 hxs;generalize (w6.setCell ⟨x,1,none⟩ (.int .i64 ((base:Int)+(numS s1).1)))=w7 at *
   generalize numS s1=p1 at *;obtain⟨len,s2⟩:=p1
   simp only at hlen HPL HPR HPS HR7 hx7
   go_wp2_with fail;refine (num_st g b s2 w7 HR7.out).mono ?_
   rintro e w8 ⟨rfl,hc8,hr8⟩
   have hz8:=hz7.chg hc8 (by omega)
   have hx8:=hx7.chg hc8 (by omega)
   have hch8:=hch7.trans hc8 (fun i hi=>.inr (by omega))
   have hx8s:x<w8.heap.size:=by have:=hc8.size;omega
   have hcnt:=numS_le s2
   clear hz7 hx7 hch7 hc8 HR7 hx7s;generalize numS s2=p2 at *;obtain⟨m,s3⟩:=p2
   simp only at hcnt HPR HPS hr8
   have HR8:=Lib.hid hr8
   clear hr8;go_wp2_with fail;have hr8:=HR8.out
   clear HR8;have HS3:Hid (s3.1.length≤maxLen):=by obtain⟨_,_,h⟩:=hr8;exact Nat.le_trans h.fits h.most
   go_loopw [8] (fun i wr=>∃ (k:Nat) (v:Value) (acc:List Rec) (s:St),k≤m∧i = .int .i64 ((m-k:Nat):Int)∧acc.length=k∧decRecs base m s3 []=decRecs base (m-k) s acc∧RdS wr g b s∧
    Box wr x [.int .i64 base,.int .i64 ((base:Int)+len),v] 142∧OwnR 61 wr v acc∧(∀ i,v.ownBlock=some i→x<i)∧
    Box wr w.heap.size [.int .i64 0,.int .i64 0,.slice none 0 0] 142∧Chg Nil w wr) (fun i _=>(intOf i).toNat)
   case atStart=>exact⟨0,_,[],s3,Nat.zero_le _,rfl,rfl,rfl,hr8,hx8,OwnR.nil _ _,by simp[Value.ownBlock],hz8,hch8⟩
   case round=>
    obtain⟨k,v,acc,s,hk,rfl,hlen2,HD,hr,hx,hown,hvb,hz,hch⟩:=hrel
    clear hr8 hx8 hz8 hch8 hx8s;obtain⟨vx,vn,vc,rfl⟩:=ownsRow_form hown
    have hmk:((m-k:Nat):Int)=(m:Int)-k:=by omega
    by_cases hgo:k<m∧s.2=false
    ·obtain⟨hkm,hb0⟩:=hgo
     ·skip
      have c1:=hr.choose_spec.choose_spec.c1
      rw[hb0] at c1;have hpos:(0:Int)<((m-k:Nat):Int):=by omega
      have HR:=Lib.hid hr
      have HOW:=Lib.hid hown
      have HDD:=Lib.hid HD
      clear hr hown HD hmk;go_upto_region 16 with fail;have hxw:x<wr.heap.size:=(Array.getElem?_eq_some_iff.1 hx).1
      have hn1:=numS_le s
      have hn2:=numS_le (numS s).2
      clear c1 hpos;refine Ch.wp_region_last _ _ rfl (Chg (fun k=>k=g)) [3,6] (fun vs w=>match vs with | []=>RdS w g b s | [_]=>RdS w g b (numS s).2 | _=>RdS w g b (numS (numS s).2).2) (by kernel_rfl) (fun _=>Chg.refl _ _) (fun _ _ _ h k=>h.trans k (fun _ h=>.inl h)) [[],[0],[],[2],[1,3],[],[5],[4,6],[]] rfl (by kernel_rfl) (by kernel_rfl) (by kernel_rfl) (Chg.refl _ _).drew ?_ ?_
      ·exact HR.out.chg (Chg.refl Nil _).drew (fun h=>h) (fun h=>h)
      simp only[List.dropLast_cons_cons,List.dropLast_singleton]
      iterate 3 ((with_reducible apply Ch.Walk.eq);(case hd=>rfl);(case hi=>rfl);case h=>(intro w2 hw2 N hN;(have hx:=hx.chg hw2 (by omega);have hx0:=hx.cell (j:=0) rfl;clear hx);simp only[Ch.depB];go_simp;(try go_bits);with_reducible exact hN _ (Chg.refl _ _) (fun _ h=>h)))
      refine Ch.Walk.chainE 0 (c:=.int .i64 ((numS s).1:Nat)) rfl rfl ?_ ?_
      ·intro w6 hw6 vs hvs hF N hN;obtain rfl:=List.eq_nil_of_length_eq_zero hvs
       simp only[Ch.depB,Ch.depC,Nat.reduceBEq,Nat.reduceAdd]
       go_simp;refine (num_st g b s w6 hF).mono ?_
       rintro e w7 ⟨rfl,hc,hr⟩
       exact⟨_,rfl,hN _ hc hr⟩
      iterate 2 ((with_reducible apply Ch.Walk.eq);(case hd=>rfl);(case hi=>rfl);case h=>(intro w2 hw2 N hN;simp only[Ch.depB];go_simp;(try go_bits);with_reducible exact hN _ (Chg.refl _ _) (fun _ h=>h)))
      refine Ch.Walk.chainE 1 (c:=.int .i64 ((numS (numS s).2).1:Nat)) rfl rfl ?_ ?_
      ·intro w6 hw6 vs hvs hF N hN;obtain⟨v1,rfl⟩:=List.length_eq_one_iff.1 hvs
       simp only[Ch.depB,Ch.depC,Nat.reduceBEq,Nat.reduceAdd]
       go_simp;refine (num_st g b (numS s).2 w6 hF).mono ?_
       rintro e w7 ⟨rfl,hc,hr⟩
       exact⟨_,rfl,hN _ hc hr⟩
      ((with_reducible apply Ch.Walk.eq);(case hd=>rfl);(case hi=>rfl);case h=>(intro w2 hw2 N hN;simp only[Ch.depB];go_simp;(try go_bits);with_reducible exact hN _ (Chg.refl _ _) (fun _ h=>h)))
      refine Ch.Walk.sat (fun v w=>∃ p,v = .pointer (some ⟨p,0,none⟩)∧wr.heap.size≤p∧Box w p [.int .i64 0,.int .i64 0,.bool false,.string ⟨#[]⟩,.bool false,.string ⟨#[]⟩] 61) ?_ rfl rfl ?_ ?_
      ·rintro v w6 w7 ⟨p,rfl,hp,hbx⟩ hc
       exact⟨p,rfl,hp,hbx.chg hc (by omega)⟩
      ·intro w6 hw6 N hN;simp only[Ch.depB,Ch.depC,Nat.reduceBEq,Nat.reduceAdd]
       go_simp;refine hN _ _ ⟨w6.heap.size,rfl,hw6.size,Box.new w6 [.int .i64 0,.int .i64 0,.bool false,.string ⟨#[]⟩,.bool false,.string ⟨#[]⟩] 61⟩ ((Chg.refl _ _).alloc _) (fun vs hF=>?_)
       have hal:=(Chg.refl Nil w6).alloc (.cells #[.int .i64 0,.int .i64 0,.bool false,.string ⟨#[]⟩,.bool false,.string ⟨#[]⟩] 61)
       match vs,hF with
       | [],hF=>exact RdS.chg hF hal (fun h=>h) (fun h=>h)
       | [_],hF=>exact RdS.chg hF hal (fun h=>h) (fun h=>h)
       | _::_::_,hF=>exact RdS.chg hF hal (fun h=>h) (fun h=>h)
      intro w6 hw6;simp only[List.nil_append,List.cons_append,Ch.Fin,List.map_cons,List.map_nil,List.getD_cons_zero,List.getD_cons_succ]
      rintro v9 ⟨p,rfl,hp,hbp⟩ hF
      simp only[Ch.Then,Oper.wp]
      have b0:=hbp.cell (j:=0) rfl
      have f0:=hbp.free 0
      have b1:=hbp.cell (j:=1) rfl
      have f1:=hbp.free 1
      have b2:=hbp.cell (j:=2) rfl
      have f2:=hbp.free 2
      have b3:=hbp.cell (j:=3) rfl
      have f3:=hbp.free 3
      have b4:=hbp.cell (j:=4) rfl
      have f4:=hbp.free 4
      have b5:=hbp.cell (j:=5) rfl
      have f5:=hbp.free 5
      go_simp;have hb9:Box ((((((w6.setCell ⟨p,0,none⟩ (.int .i64 ((base:Int)+(numS s).1))).setCell ⟨p,1,none⟩ (.int .i64 ((numS (numS s).2).1:Nat))).setCell ⟨p,2,none⟩ (.bool false)).setCell ⟨p,3,none⟩ (.string ⟨#[]⟩)).setCell ⟨p,4,none⟩ (.bool false)).setCell ⟨p,5,none⟩ (.string ⟨#[]⟩))
        p [.int .i64 ((base:Int)+(numS s).1),.int .i64 ((numS (numS s).2).1:Nat),.bool false,.string ⟨#[]⟩,.bool false,.string ⟨#[]⟩] 61:=(((((hbp.set 0 _).set 1 _).set 2 _).set 3 _).set 4 _).set 5 _
      have hcs:Chg (fun k=>k=p) w6 ((((((w6.setCell ⟨p,0,none⟩ (.int .i64 ((base:Int)+(numS s).1))).setCell ⟨p,1,none⟩ (.int .i64 ((numS (numS s).2).1:Nat))).setCell ⟨p,2,none⟩ (.bool false)).setCell ⟨p,3,none⟩ (.string ⟨#[]⟩)).setCell ⟨p,4,none⟩ (.bool false)).setCell ⟨p,5,none⟩ (.string ⟨#[]⟩)):=
       ((((((Chg.refl (fun k=>k=p) _).setCell (.inl rfl) _).setCell (.inl rfl) _).setCell (.inl rfl) _).setCell (.inl rfl) _).setCell (.inl rfl) _).setCell (.inl rfl) _
      clear b0 b1 b2 b3 b4 b5 f0 f1 f2 f3 f4 f5 hbp;generalize ((((((w6.setCell ⟨p,0,none⟩ (.int .i64 ((base:Int)+(numS s).1))).setCell ⟨p,1,none⟩ (.int .i64 ((numS (numS s).2).1:Nat))).setCell ⟨p,2,none⟩ (.bool false)).setCell ⟨p,3,none⟩ (.string ⟨#[]⟩)).setCell ⟨p,4,none⟩ (.bool false)).setCell ⟨p,5,none⟩ (.string ⟨#[]⟩))=w9 at *
      have hF:RdS w6 g b (numS (numS s).2).2:=hF
      have hr9:=hF.chg hcs (by omega) (by omega)
      have hc9:Chg (fun k=>k=g) wr w9:=hw6.trans hcs (fun i hi=>.inr (by omega))
      have HS1:Hid (decRec base s=(mkRec base (numS s).1 (numS (numS s).2).1 (numS (numS (numS s).2).2).1 (keyOf (numS (numS (numS s).2).2).1 (flagS (numS (numS (numS s).2).2).1 (numS (numS (numS s).2).2).2)).1 (valOfS (numS (numS (numS s).2).2).1 (keyOf (numS (numS (numS s).2).2).1 (flagS (numS (numS (numS s).2).2).1 (numS (numS (numS s).2).2).2)).2).1,
       (valOfS (numS (numS (numS s).2).2).1 (keyOf (numS (numS (numS s).2).2).1 (flagS (numS (numS (numS s).2).2).1 (numS (numS (numS s).2).2).2)).2).2)):=rfl
      clear hF hw6 hcs HR;generalize (numS s).1=r1 at *
      generalize (numS s).2=q1 at *;generalize (numS q1).1=r2 at *
      generalize (numS q1).2=q2 at *;have HR9:=Lib.hid hr9
      clear hr9;go_wp2_with fail;refine (num_st g b q2 w9 HR9.out).mono ?_
      rintro e w10 ⟨rfl,hc10,hr10⟩
      have hn3:=numS_le q2
      generalize (numS q2).1=fl at *;generalize (numS q2).2=q3 at *
      have hb10:=hb9.chg hc10 (by omega)
      have hc10':=hc9.trans hc10 (fun i hi=>.inl hi)
      clear HR9 hb9 hc9 hc10;have HR10:=Lib.hid hr10
      clear hr10;go_upto_region 18 with fail;have d1:=HR10.out.choose_spec.choose_spec.c1
      have d2:=HR10.out.choose_spec.choose_spec.f1
      go_cut [10] (fun u10 wx=>u10 = .int .i64 fl∧wx=w10.setCell ⟨g,1,none⟩ (.bool (q3.2||decide (3<fl))))
      case first=>
       obtain⟨q3l,q3b⟩:=q3
       simp only at d1 d2
       have HD3:Hid (decide ((3:Int)<(fl:Int))=decide (3<fl)):=by unfold Hid;congr 1;exact propext (by omega)
       cases q3b
       ·go_wp2_with fail;go_meet
        case rel=>exact⟨rfl,by rw[HD3.out];rfl⟩
       ·go_wp2_with fail;go_meet
        case rel=>exact⟨rfl,rfl⟩
      case rest=>
       obtain⟨rfl,rfl⟩:=hcut
       have hrs:RdS (w10.setCell ⟨g,1,none⟩ (.bool (q3.2||decide (3<fl)))) g b (flagS fl q3):=by
        obtain⟨off,cap,h⟩:=HR10.out
        exact⟨off,cap-0,h.move 0 off (Nat.zero_le _) (fun _=>rfl) (by rw[cell_set h.c0];rfl) (by rw[cell_set h.c1];rfl) (fun q=>by rw[frozen_set]) ((Chg.refl (fun k=>k=g) _).setCell (.inl rfl) _)⟩
       have hbs:=hb10.chg ((Chg.refl (fun k=>k=g) w10).setCell (p:=⟨g,1,none⟩) (.inl rfl) (.bool (q3.2||decide (3<fl)))) (by omega)
       have hcs:=hc10'.setCell (p:=⟨g,1,none⟩) (.inl rfl) (.bool (q3.2||decide (3<fl)))
       have hf1:=flag1 fl hn3
       have hf2:=flag2 fl hn3
       have hmr:Hid (∀ k v,mkRec base r1 r2 fl k v=⟨base+r1,r2,decide (fl % 2=1),⟨k.toArray⟩,decide (fl / 2 % 2=1),⟨v.toArray⟩⟩):=fun _ _=>rfl
       have hkt:Hid (∀ s,decide (fl % 2=1)=true→keyOf fl s=textSt s):=fun s h=>by unfold keyOf;rw[if_pos (of_decide_eq_true h)]
       have hkf:Hid (∀ s,decide (fl % 2=1)=false→keyOf fl s=([],s)):=fun s h=>by unfold keyOf;rw[if_neg (of_decide_eq_false h)]
       have hvt:Hid (∀ s,decide (fl / 2 % 2=1)=true→valOfS fl s=([],s)):=fun s h=>by unfold valOfS;rw[if_pos (of_decide_eq_true h)]
       have hvf:Hid (∀ s,decide (fl / 2 % 2=1)=false→valOfS fl s=textSt s):=fun s h=>by unfold valOfS;rw[if_neg (of_decide_eq_false h)]
       clear hb10 hc10' HR10 d1 d2;generalize w10.setCell ⟨g,1,none⟩ (.bool (q3.2||decide (3<fl)))=w11 at *
       generalize flagS fl q3=q4 at *;generalize decide (fl % 2=1)=kB at *
       generalize decide (fl / 2 % 2=1)=gB at *;have HRS:=Lib.hid hrs
       clear hrs;have b2:=hbs.cell (j:=2) rfl
       have f2:=hbs.free 2
       go_upto_if 95 with fail
       have hbt:=hbs.set 2 (.bool kB)
       have hct:=hcs.setCell (p:=⟨p,2,none⟩) (.inr hp) (.bool kB)
       have hrt:=HRS.out.chg ((Chg.refl (fun k=>k=p) w11).setCell (p:=⟨p,2,none⟩) (.inl rfl) (.bool kB)) (by omega) (by omega)
       have HRT:=Lib.hid hrt
       clear hbs hcs hrt HRS b2 f2;generalize w11.setCell ⟨p,2,none⟩ (.bool kB)=w12 at *
       go_cut [10] (fun u10 wx=>u10 = .int .i64 fl∧RdS wx g b (keyOf fl q4).2∧Box wx p [.int .i64 ((base:Int)+r1),.int .i64 r2,.bool kB,.string ⟨(keyOf fl q4).1.toArray⟩,.bool false,.string ⟨#[]⟩] 61∧Chg (fun k=>k=g) wr wx)
       case first=>
        cases kB
        ·have HK:=Lib.hid (hkf.out q4 rfl)
         clear hkf hkt;go_wp2_with fail;go_meet
         case rel=>rw[HK.out];exact⟨rfl,HRT.out,hbt,hct⟩
        ·have HK:=Lib.hid (hkt.out q4 rfl)
         clear hkf hkt;go_wp2_with fail;refine (text_st g b q4 w12 HRT.out).mono ?_
         rintro e w13 ⟨rfl,hc13,hr13⟩
         have hb13:=hbt.chg hc13 (by omega)
         have hcc:=hct.trans hc13 (fun i hi=>.inl hi)
         have c3:=hb13.cell (j:=3) rfl
         have f3:=hb13.free 3
         have HR13:=Lib.hid hr13
         clear hr13;go_wp2_with fail;go_meet
         case rel=>
          rw[HK.out];exact⟨rfl,HR13.out.chg ((Chg.refl (fun k=>k=p) _).setCell (.inl rfl) _) (by omega) (by omega),hb13.set 3 _,hcc.setCell (.inr hp) _⟩
       case rest=>
        obtain⟨rfl,hr14,hb14,hc14⟩:=hcut
        have HR14:=Lib.hid hr14
        clear hr14 HRT hbt hct hkf hkt;generalize (keyOf fl q4).1=key at *
        generalize (keyOf fl q4).2=q5 at *;have b4:=hb14.cell (j:=4) rfl
        have f4:=hb14.free 4
        go_upto_if 105 with fail
        have hbt:=hb14.set 4 (.bool gB)
        have hct:=hc14.setCell (p:=⟨p,4,none⟩) (.inr hp) (.bool gB)
        have hrt:=HR14.out.chg ((Chg.refl (fun k=>k=p) wc).setCell (p:=⟨p,4,none⟩) (.inl rfl) (.bool gB)) (by omega) (by omega)
        have HRT:=Lib.hid hrt
        clear hb14 hc14 hrt HR14 b4 f4;generalize wc.setCell ⟨p,4,none⟩ (.bool gB)=w15 at *
        go_cut [10] (fun u10 wx=>u10 = .int .i64 fl∧RdS wx g b (valOfS fl q5).2∧Box wx p [.int .i64 ((base:Int)+r1),.int .i64 r2,.bool kB,.string ⟨key.toArray⟩,.bool gB,.string ⟨(valOfS fl q5).1.toArray⟩] 61∧Chg (fun k=>k=g) wr wx)
        case first=>
         cases gB
         ·have HK:=Lib.hid (hvf.out q5 rfl)
          clear hvf hvt;go_wp2_with fail;refine (text_st g b q5 w15 HRT.out).mono ?_
          rintro e w13 ⟨rfl,hc13,hr13⟩
          have hb13:=hbt.chg hc13 (by omega)
          have hcc:=hct.trans hc13 (fun i hi=>.inl hi)
          have c5:=hb13.cell (j:=5) rfl
          have f5:=hb13.free 5
          have HR13:=Lib.hid hr13
          clear hr13;go_wp2_with fail;go_meet
          case rel=>
           rw[HK.out];exact⟨rfl,HR13.out.chg ((Chg.refl (fun k=>k=p) _).setCell (.inl rfl) _) (by omega) (by omega),hb13.set 5 _,hcc.setCell (.inr hp) _⟩
         ·have HK:=Lib.hid (hvt.out q5 rfl)
          clear hvf hvt;go_wp2_with fail;go_meet
          case rel=>rw[HK.out];exact⟨rfl,HRT.out,hbt,hct⟩
        case rest=>
         obtain⟨rfl,hr16,hb16,hc16⟩:=hcut
         have HR16:=Lib.hid hr16
         clear hr16 HRT hbt hct hvf hvt;generalize (valOfS fl q5).1=val at *
         generalize (valOfS fl q5).2=q6 at *;have hmr2:=hmr.out key val
         have hq6:decRec base s=(⟨base+r1,r2,kB,⟨key.toArray⟩,gB,⟨val.toArray⟩⟩,q6):=by rw[HS1.out,hmr2]
         have HD6:Hid (decRecs base m s3 []=decRecs base (m-(k+1)) q6 (acc++[⟨base+r1,r2,kB,⟨key.toArray⟩,gB,⟨val.toArray⟩⟩])):=by
          unfold Hid;rw[HDD.out,show m-k=m-(k+1)+1 by omega,decRecs_on hb0,hq6]
         clear hq6 hmr2 hmr;have g0:=hb16.cell (j:=0) rfl
         have g1:=hb16.cell (j:=1) rfl
         have g2:=hb16.cell (j:=2) rfl
         have g3:=hb16.cell (j:=3) rfl
         have g4:=hb16.cell (j:=4) rfl
         have g5:=hb16.cell (j:=5) rfl
         have hown:=ownsRow_chg HOW.out hc16 (fun i hi e=>by have:=hvb i hi;omega)
         have hx16:=hx.chg hc16 (by omega)
         have hz16:=hz.chg hc16 (by omega)
         have hch16:=hch.trans hc16 (fun i hi=>.inr (by omega))
         have hx2:=hx16.cell (j:=2) rfl
         have hsz16:x<wc.heap.size:=(Array.getElem?_eq_some_iff.1 hx16).1
         have h63:acc.length+1≤maxLen:=by unfold maxLen;omega
         have hby:(acc.length+1)*64≤140737488355328:=by omega
         have hb1:=Box.new wc (Rec.cells ⟨base+r1,r2,kB,⟨key.toArray⟩,gB,⟨val.toArray⟩⟩) 61
         have HB1:=Lib.hid hb1
         have HH63:=Lib.hid h63
         have HBY:=Lib.hid hby
         have HX:=Lib.hid hx16
         have HOW16:=Lib.hid hown
         clear hb1 h63 hby hx16 hown hx;have HL2:=Lib.hid hlen2
         clear hlen2;go_wp2_with (at_builtin;go_must (refine wpList_append_grew rfl (.tmp 110) (.tmp 112) 62 62 rfl recsT _ Tryz.underlying62 (by intro _;simp) _ _ _ rfl (HOW16.out.alloc _) _ 1 (Rec.cells ⟨base+r1,r2,kB,⟨key.toArray⟩,gB,⟨val.toArray⟩⟩) rfl (Source.box HB1.out rfl (Rec.cells_one _)) HH63.out HBY.out ?_);intro v2 w2 hown2 hg2 _;obtain⟨x2,n2,c2,rfl⟩:=ownsRow_form hown2;have hxw:Box w2 x _ _:=(HX.out.chg ((Chg.refl Nil wc).alloc _) (fun h=>h)).chg hg2.chg (fun h=>by have:=hvb _ h;omega);have hx2':=hxw.cell (j:=2) rfl;have hxf:=hxw.free 2;have HXW:=Lib.hid hxw;clear hxw hx2)
         go_wp2
         go_roundw
         case rel=>
          have hsz2:=hg2.chg.size
          simp at hsz2
          have hchA:=(Chg.refl Nil wc).alloc (.cells (Rec.cells ⟨base+r1,r2,kB,⟨key.toArray⟩,gB,⟨val.toArray⟩⟩).toArray 61)
          have hxlt:=hvb
          have hv2:∀ i,(Value.slice x2 n2 c2).ownBlock=some i→x<i:=by
           intro i hi;rcases hg2.own i hi with h | h
           ·exact hvb i h
           ·simp at h;omega
          have hset:Chg (fun i=>i=x) w2 (w2.setCell ⟨x,2,none⟩ (.slice x2 n2 c2)):=(Chg.refl (fun i=>i=x) _).setCell (.inl rfl) _
          have hb2:b<x:=by omega
          have hup:Chg (Own (.slice vx vn vc)) wc w2:=(hchA.weak (fun _ h=>h.elim)).trans hg2.chg (fun i hi=>.inl hi)
          refine⟨k+1,.slice x2 n2 c2,acc++[⟨base+r1,r2,kB,⟨key.toArray⟩,gB,⟨val.toArray⟩⟩],q6,by omega,?_,by rw[List.length_append,HL2.out];rfl,HD6.out,?_,HXW.out.set 2 _,?_,hv2,?_,?_⟩
          ·rw[show ((m-(k+1):Nat):Int)=((m-k:Nat):Int)-1 by omega]
          ·exact (((HR16.out.chg hchA (fun h=>h) (fun h=>h)).chg hg2.chg (fun h=>by have:=hvb _ h;omega) (fun h=>by have:=hvb _ h;omega)).chg hset (by omega) (by omega))
          ·have h:=ownsRow_chg hown2 hset (fun i hi e=>by have:=hv2 i hi;omega)
           unfold OwnR;rw[List.length_append,List.flatMap_append];simpa using h
          ·exact ((hz16.chg hup (fun h=>by have:=hvb _ h;omega)).chg hset (by omega))
          ·exact (hch16.trans hup (fun i hi=>.inr (by have:=hvb _ hi;omega))).trans hset (fun i hi=>.inr (by omega))
         case measure=>simp[intOf];omega
    ·have hfin:decRecs base m s3 []=(acc,s):=by
      rw[HD];by_cases hb:s.2=true
      ·exact decRecs_bad hb
      ·have:m-k=0:=by
        by_cases hk2:k<m
        ·exact absurd ⟨hk2,by simpa using hb⟩ hgo
        ·omega
       rw[this];rfl
     have hacc:∀ r∈acc,r.Ok:=by
      have:=decRecs_ok (n:=m) (s:=s3) (acc:=[]) (base:=(base:Int)) (by omega) (by omega) HS3.out (by simp)
      rw[hfin] at this;exact this
     have HACC:=Lib.hid hacc
     have HG:Hid ((parse B).good=(!s.2&&s.1.isEmpty&&decide (checkB base ((base:Int)+len) acc=0))):=by
      unfold Hid;rw[HGD.out,HPS.out,HPR.out,HPB.out,HPL.out,hfin]
     have HR2:Hid ((parse B).recs=acc):=by unfold Hid;rw[HPR.out,hfin]
     have hle2:acc.length≤maxLen:=by unfold maxLen;omega
     have HLE:=Lib.hid hle2
     obtain⟨va,vcap,hv,hrecs,hvle⟩:=hown.recs
     simp only[Value.slice.injEq] at hv
     obtain⟨rfl,rfl,rfl⟩:=hv
     have HRC:=Lib.hid hrecs
     have HOW:=Lib.hid hown
     obtain⟨roff,rcap,hrd⟩:=hr
     have c0:=hrd.c0
     have c1:=hrd.c1
     have x0:=hx.cell (j:=0) rfl
     have x1:=hx.cell (j:=1) rfl
     have x2:=hx.cell (j:=2) rfl
     have z0:=hz.cell (j:=0) rfl
     have z1:=hz.cell (j:=1) rfl
     have z2:=hz.cell (j:=2) rfl
     have y0:=hz.free 0
     have y1:=hz.free 1
     have y2:=hz.free 2
     have hxb:x<wr.heap.size:=(Array.getElem?_eq_some_iff.1 hx).1
     have hwc:∃ w9,w9=wr:=⟨_,rfl⟩
     clear hfin HD hmk hacc hle2 hlen2 hown hrecs hrd hwc;have HGO:Hid (¬(k<m∧s.2=false)):=hgo
     clear hgo;by_cases hkm:k<m
     ·have hbad:s.2=true:=by cases h:s.2 with | true=>rfl | false=>exact absurd ⟨hkm,h⟩ HGO.out
      rw[hbad] at c1;have hpos:(0:Int)<((m-k:Nat):Int):=by omega
      have HX3:Hid (decErr l=3):=by unfold Hid;rw[HX.out,HG.out,hbad];rfl
      clear hbad;go_wp2_with fail;refine bodyPost_ret (v:=.tuple #[.agg #[.int .i64 0,.int .i64 0,.slice none 0 0],.int .i64 0,.iface 39 (.int .i64 3)]) (by simp[results,Tryz.results187,go_sem,z0,z1,z2]) rfl (HP _ _ ⟨?_,.inl ⟨by rw[HX3.out];simp,by rw[HX3.out];rfl⟩⟩)
      exact ((hch.setCell (.inr (Nat.le_refl _)) _).setCell (.inr (Nat.le_refl _)) _).setCell (.inr (Nat.le_refl _)) _
     ·have hpos:¬(0:Int)<((m-k:Nat):Int):=by omega
      by_cases hbad:s.2=true
      ·rw[hbad] at c1;have HX3:Hid (decErr l=3):=by unfold Hid;rw[HX.out,HG.out,hbad];rfl
       clear hbad;go_wp2_with fail;refine bodyPost_ret (v:=.tuple #[.agg #[.int .i64 0,.int .i64 0,.slice none 0 0],.int .i64 0,.iface 39 (.int .i64 3)]) (by simp[results,Tryz.results187,go_sem,z0,z1,z2]) rfl (HP _ _ ⟨?_,.inl ⟨by rw[HX3.out];simp,by rw[HX3.out];rfl⟩⟩)
       exact ((hch.setCell (.inr (Nat.le_refl _)) _).setCell (.inr (Nat.le_refl _)) _).setCell (.inr (Nat.le_refl _)) _
      ·have hb0:s.2=false:=by simpa using hbad
       rw[hb0] at c1;by_cases hl0:s.1=[]
       ·have HX3:Hid (decErr l=if checkB base ((base:Int)+len) acc=0 then 0 else 3):=by unfold Hid;rw[HX.out,HG.out,hb0,hl0];simp
        rw[hl0,List.length_nil] at c0;clear hb0 hl0 hbad;go_wp2_with fail;have hcb:=HOW.out
        have HCK:=Lib.hid (check_any (base:Int) ((base:Int)+len) vx acc vc wr (by omega) (by omega) HLE.out HACC.out HRC.out)
        by_cases hce:checkB base ((base:Int)+len) acc=0
        ·have HX0:Hid (decErr l=0):=by unfold Hid;rw[HX3.out,if_pos hce]
         rw[hce] at HCK;clear hce HG;refine HCK.out.mono ?_
         rintro e w9 ⟨rfl,hc9⟩
         have hch9:=hch.trans hc9 (fun _ h=>h.elim)
         have hx9:=hx.chg hc9 (fun h=>h)
         have hz9:=hz.chg hc9 (fun h=>h)
         have hown9:=ownsRow_chg hcb hc9 (fun _ _ h=>h)
         have HO9:=Lib.hid hown9
         clear hcb hown9 x0 x1 x2 z0 z1 z2 y0 y1 y2 c0 c1;have x0:=hx9.cell (j:=0) rfl
         have x1:=hx9.cell (j:=1) rfl
         have x2:=hx9.cell (j:=2) rfl
         have z0:=hz9.cell (j:=0) rfl
         have z1:=hz9.cell (j:=1) rfl
         have z2:=hz9.cell (j:=2) rfl
         have y0:=hz9.free 0
         have y1:=hz9.free 1
         have y2:=hz9.free 2
         unfold errV;go_wp2_with fail;refine bodyPost_ret (v:=.tuple #[.agg #[.int .i64 base,.int .i64 ((base:Int)+len),.slice vx acc.length vc],.int .i64 n,.nilIface]) (by simp[results,Tryz.results187,go_sem,z0,z1,z2]) rfl (HP _ _ ⟨?_,.inr ⟨HX0.out,.slice vx acc.length vc,by rw[HPB.out,HPL.out],?_,?_⟩⟩)
         ·exact ((hch9.setCell (.inr (Nat.le_refl _)) _).setCell (.inr (Nat.le_refl _)) _).setCell (.inr (Nat.le_refl _)) _
         ·rw[HR2.out];exact ownsRow_chg HO9.out ((((Chg.refl (fun i=>i=w.heap.size) _).setCell (.inl rfl) _).setCell (.inl rfl) _).setCell (.inl rfl) _) (fun i hi e=>by have:=hvb i hi;omega)
         ·intro i hi;have:=hvb i hi
          omega
        ·have HX9:Hid (decErr l=3):=by unfold Hid;rw[HX3.out,if_neg hce]
         have he:errV 39 (checkB base ((base:Int)+len) acc) = .iface 39 (.int .i64 ((checkB base ((base:Int)+len) acc:Nat):Int)):=by unfold errV;rw[if_neg hce]
         rw[he] at HCK;clear hce he HG HX3;generalize checkB base ((base:Int)+len) acc=ce at *
         refine HCK.out.mono ?_
         rintro e w9 ⟨rfl,hc9⟩
         have hch9:=hch.trans hc9 (fun _ h=>h.elim)
         have hz9:=hz.chg hc9 (fun h=>h)
         clear hcb x0 x1 x2 z0 z1 z2 y0 y1 y2 c0 c1;have z0:=hz9.cell (j:=0) rfl
         have z1:=hz9.cell (j:=1) rfl
         have z2:=hz9.cell (j:=2) rfl
         have y0:=hz9.free 0
         have y1:=hz9.free 1
         have y2:=hz9.free 2
         go_wp2_with fail;refine bodyPost_ret (v:=.tuple #[.agg #[.int .i64 0,.int .i64 0,.slice none 0 0],.int .i64 0,.iface 39 (.int .i64 3)]) (by simp[results,Tryz.results187,go_sem,z0,z1,z2]) rfl (HP _ _ ⟨?_,.inl ⟨by rw[HX9.out];simp,by rw[HX9.out];rfl⟩⟩)
         exact ((hch9.setCell (.inr (Nat.le_refl _)) _).setCell (.inr (Nat.le_refl _)) _).setCell (.inr (Nat.le_refl _)) _
       ·have hl1:(0:Int)<(s.1.length:Int):=by have:=List.length_pos_iff.2 hl0;omega
        have HX3:Hid (decErr l=3):=by unfold Hid;rw[HX.out,HG.out,hb0,List.isEmpty_eq_false_iff.2 hl0];rfl
        clear hb0 hl0 hbad HG;have hl1':0<s.1.length:=by omega
        generalize s.1.length=sl at *;go_wp2_with fail;refine bodyPost_ret (v:=.tuple #[.agg #[.int .i64 0,.int .i64 0,.slice none 0 0],.int .i64 0,.iface 39 (.int .i64 3)]) (by simp[results,Tryz.results187,go_sem,z0,z1,z2]) rfl (HP _ _ ⟨?_,.inl ⟨by rw[HX3.out];simp,by rw[HX3.out];rfl⟩⟩)
        exact ((hch.setCell (.inr (Nat.le_refl _)) _).setCell (.inr (Nat.le_refl _)) _).setCell (.inr (Nat.le_refl _)) _
  ·have hsi:¬((sumOf ((l.take n).drop 8):Nat):Int)=(fromB (l.drop 4):Nat):=by omega
   have HX:Hid (decErr l=3):=by unfold Hid;rw[HS.out,if_pos hsum]
   generalize sumOf ((l.take n).drop 8)=s1 at *;generalize fromB (l.drop 4)=s2 at *
   have z0:=hz.cell (j:=0) rfl
   have z1:=hz.cell (j:=1) rfl
   have z2:=hz.cell (j:=2) rfl
   have y0:=hz.free 0
   have y1:=hz.free 1
   have y2:=hz.free 2
   go_wp2_with fail;refine bodyPost_ret (v:=.tuple #[.agg #[.int .i64 0,.int .i64 0,.slice none 0 0],.int .i64 0,.iface 39 (.int .i64 3)]) (by simp[results,Tryz.results187,go_sem,z0,z1,z2]) rfl (HP _ _ ⟨?_,.inl ⟨by rw[HX.out];simp,by rw[HX.out];rfl⟩⟩)
   exact ((hch2.setCell (.inr (Nat.le_refl _)) _).setCell (.inr (Nat.le_refl _)) _).setCell (.inr (Nat.le_refl _)) _
end Go.Proofs.YtobegmcbfgnpnaaGreatDoor
