/-
  The law crashes: the walk. (Of the logs' seat.)
-/
import Derived.Test.YtdjmifaidgbbaaaGreatDoorT44
set_option linter.unusedVariables false
set_option linter.unusedSimpArgs false
set_option maxHeartbeats 0
set_option maxRecDepth 200000
namespace Go.Proofs.YtdjmifaidgbbaaaGreatDoor
open Go.RowKit Go.Maps
theorem crashes_any {w0 w:World} {x p l:Nat} {most:Int} {B S:Nat→Prop} {sv:Value} {ss:List (Nat×Value)} {d:Dk} {g:Lg} {va vg vm ve:Value} {W:Wd} {m:Nat} (h:WS w0 w x p l most B S sv ss d g va vg vm ve W) (hp:WPl W d g m) (hm:m≤62) (hH:Handle w0) (hT:TabE w0) (hmost:100≤most∧most≤1048576) (what a b:Int) (rv:Value) (fates:List UInt8) (fa:Option Addr) (fc:Nat) (hfl:fates.length≤9223372036854775807) (hfb:BytesAt w0 fa fates) :
  Calls Tryz.prog 24 #[.pointer (some ⟨x,0,none⟩),.agg #[.int .i64 what,.int .i64 a,.int .i64 b,rv,.slice fa fates.length fc]] w (CrashAt w0 x p most m):=by
 obtain⟨ys,z,hwk⟩:=hp.wk
 have HWK:=Lib.hid hwk
 have HM:=Lib.hid hm
 have HHN:=Lib.hid hH
 have HT:=Lib.hid hT
 have HMO:=Lib.hid hmost
 have HFL:=Lib.hid hfl
 have HFB:=Lib.hid hfb
 have HFB2:Hid (∀ w',Chg Nil w0 w'→BytesAt w' fa fates):=fun w' hw i hi=>by
  obtain⟨bb,off,h1,h2⟩:=HFB.out i hi
  exact⟨bb,off,h1,hw.cell h2 (fun h=>h)⟩
 have HFN:Hid (fates≠[]→∀ y,fa=some y→y.block<w0.heap.size):=fun hne y hy=>by
  obtain⟨bb,off,h1,h2⟩:=HFB.out 0 (List.length_pos_iff.2 hne)
  rw[hy] at h1;obtain rfl:=Option.some.inj h1
  exact World.block_lt_of_cell? _ _ h2
 obtain⟨F,hF⟩:∃ F,fates.length=F:=⟨_,rfl⟩
 have HF:=Lib.hid hF
 rw[hF];have hal:=(Chg.refl Nil w).alloc (.cells #[.int .i64 what,.int .i64 a,.int .i64 b,rv,.slice fa F fc] 59)
 have hbx:Box (w.alloc (.cells #[.int .i64 what,.int .i64 a,.int .i64 b,rv,.slice fa F fc] 59)) w.heap.size [.int .i64 what,.int .i64 a,.int .i64 b,rv,.slice fa F fc] 59:=Box.new w _ _
 have hwd:=h.wd.grow hal
 have HP3:=Lib.hid (pick_any b 3)
 have HP3L:=Lib.hid (pickN_lt (a:=b) (n:=3) (by omega))
 clear h hp hm hH hT hmost hfl hfb hF hwk;go_enter Tryz.func24,Tryz.ntmps24
 go_upto_region 1 with fail;obtain⟨b3,hb3⟩:∃ b3,w.heap.size=b3:=⟨_,rfl⟩
 generalize hw1:w.alloc (.cells #[.int .i64 what,.int .i64 a,.int .i64 b,rv,.slice fa F fc] 59)=w1 at *;rw[hb3] at hbx
 rw[hb3];have b2:=hbx.cell (j:=2) rfl
 obtain⟨B2,hB2⟩:∃ B2:Nat→Prop,(fun k=>B k∨(w.heap.size≤k∧k<w1.heap.size))=B2:=⟨_,rfl⟩
 have HB3:Hid (B2 b3):=by rw[←hB2];exact .inr ⟨Nat.le_of_eq hb3,(Array.getElem?_eq_some_iff.1 hbx).1⟩
 rw[hB2] at hwd;have HWD:=Lib.hid hwd
 have HBX:=Lib.hid hbx
 clear hal hbx hb3 hw1 hB2 hwd;go_wp2_with fail;refine (HP3.out w1 (by omega) (by omega)).mono ?_
 rintro e w2 ⟨rfl,hw2⟩
 obtain rfl:=hw2.symm
 obtain⟨k0,hk0⟩:∃ k0,pickN b 3=k0:=⟨_,rfl⟩
 rw[hk0] at HP3L;rw[hk0];clear hk0 HP3 b2;go_wp2_with fail;go_loopw [5] (fun iv wr=>∃ (wq:World) (k:Nat) (S1:Nat→Prop) (d1:Dk),wq=wr∧iv = .int .i64 (k:Nat)∧Hid (k<3)∧Hid (WD w0 wr x p l most B2 S1 d1 va vg vm ve W)∧Hid (WK W d1 ys z m)∧Hid (Box wr b3 [.int .i64 what,.int .i64 a,.int .i64 b,rv,.slice fa F fc] 59)) (fun iv _=>(RowKit.intOf iv).toNat)
 case atStart=>exact⟨_,k0,S,d,rfl,rfl,HP3L.out,HWD.out,HWK.out,HBX.out⟩
 case round=>
  obtain⟨wr,k,S1,d1,rfl,rfl,HK,HWD1,HWK1,HBX1⟩:=hrel
  have c0:wr.cell? ⟨x,0,none⟩=some (.pointer (some ⟨p,0,none⟩)):=HWD1.out.wm.c.cell (j:=0) rfl
  have b4:=HBX1.out.cell (j:=4) rfl
  have HCR:Hid (∀ w2,Chg Nil wr w2→Calls Tryz.prog 41 #[.pointer (some ⟨p,0,none⟩),.slice fa F fc] w2 fun e w3=>e = .returned (.tuple #[])∧DiskAt w3 p (Gr S1 w2 w3) (d1.crash fates)∧Chg S1 w2 w3):=fun w2 hw=>by
   have h2:=HWD1.out.nil hw
   have h1:=crash_any h2.ds.a fa fates fc HFL.out (HFB2.out w2 h2.ch) (fun hne y hy hs=>(HWD1.out.ds.sl _ hs).1 (HWD1.out.b0 _ (HFN.out hne y hy)))
   rw[HF.out] at h1;exact h1
  go_upto_region 3 with fail;refine Ch.wp_region_tail _ 6 (Chg (Nil)) [] (fun _ _=>True) (by kernel_rfl) (fun _=>Chg.refl _ _) (fun _ _ _ h k=>h.trans k (fun _ h=>.inl h)) [[],[0],[1],[2],[],[4],[3,5]] rfl (by kernel_rfl) (by kernel_rfl) (by kernel_rfl) (Chg.refl _ _).drew ?_ ?_
  ·trivial
  simp only[List.take_succ_cons,List.take_zero,List.drop_succ_cons,List.drop_zero,List.length_cons,List.length_nil,Nat.reduceAdd]
  iterate 3 ((with_reducible apply Ch.Walk.eq);(case hd=>rfl);(case hi=>rfl);case h=>(intro w2 hw2 N hN;simp only[Ch.depB];go_simp;(try go_bits);with_reducible exact hN _ (Chg.refl _ _) (fun _ h=>h)))
  ((with_reducible apply Ch.Walk.eq);(case hd=>rfl);(case hi=>rfl);case h=>(intro w2 hw2 N hN;(have hq:=hw2.cell c0 (fun h=>h));simp only[Ch.depB];go_simp;(try go_bits);with_reducible exact hN _ (Chg.refl _ _) (fun _ h=>h)))
  ((with_reducible apply Ch.Walk.eq);(case hd=>rfl);(case hi=>rfl);case h=>(intro w2 hw2 N hN;simp only[Ch.depB];go_simp;(try go_bits);with_reducible exact hN _ (Chg.refl _ _) (fun _ h=>h)))
  ((with_reducible apply Ch.Walk.eq);(case hd=>rfl);(case hi=>rfl);case h=>(intro w2 hw2 N hN;(have hq:=hw2.cell b4 (fun h=>h));simp only[Ch.depB];go_simp;(try go_bits);with_reducible exact hN _ (Chg.refl _ _) (fun _ h=>h)))
  intro w3 hw3;simp only[List.nil_append,List.cons_append,Ch.Fin,List.map_cons,List.map_nil,List.getD_cons_zero,List.getD_cons_succ]
  intro _;have HC3:=Lib.hid hw3
  clear c0 b4 hw3;simp only[Ch.thens_cons,Ch.thens_nil,Oper.wp]
  go_simp;refine (HCR.out w3 HC3.out).mono ?_
  rintro e w4 ⟨rfl,hd4,hc4⟩
  have hwd4:=(HWD1.out.nil HC3.out).disk hd4 (fun k hk=>hk) hc4
  have HWD4:=Lib.hid hwd4.1
  have HWK4:=Lib.hid (HWK1.out.crash fates)
  have HBX4:=Lib.hid ((HBX1.out.chg HC3.out (fun h=>h)).chg hwd4.2 (fun h=>h HB3.out))
  clear hd4 hc4 hwd4 HCR HWD1 HWK1 HBX1 HC3;go_upto_if 25 with fail
  go_cut [5] (fun bv wy=>bv = .int .i64 (k:Nat)∧∃ (S5:Nat→Prop) (d5:Dk),Hid (WD w0 wy x p l most B2 S5 d5 va vg vm ve W)∧Hid (WK W d5 ys z m)∧Hid (k=0→d5.left = -1)∧Hid (Box wy b3 [.int .i64 what,.int .i64 a,.int .i64 b,rv,.slice fa F fc] 59))
  case first=>
   by_cases hk0:k=0
   ·have hkk:¬(0:Int)<(k:Int):=by omega
    clear hk0;go_wp2_with fail;go_meet
    case rel=>exact⟨rfl,_,_,HWD4.out,HWK4.out.1,fun _=>HWK4.out.2,HBX4.out⟩
   ·have hkk:(0:Int)<(k:Int):=by omega
    have HKN:=Lib.hid hk0
    have c0:w4.cell? ⟨x,0,none⟩=some (.pointer (some ⟨p,0,none⟩)):=HWD4.out.wm.c.cell (j:=0) rfl
    have b1:=HBX4.out.cell (j:=1) rfl
    have HPK:=Lib.hid (pick_any a 6)
    have HPL:=Lib.hid (pickN_lt (a:=a) (n:=6) (by omega))
    clear hk0;go_upto_region 5 with fail;refine Ch.wp_region_tail _ 7 (Chg (Nil)) [] (fun _ _=>True) (by kernel_rfl) (fun _=>Chg.refl _ _) (fun _ _ _ h k=>h.trans k (fun _ h=>.inl h)) [[],[0],[1],[2],[],[4],[5],[3,6]] rfl (by kernel_rfl) (by kernel_rfl) (by kernel_rfl) (Chg.refl _ _).drew ?_ ?_
    ·trivial
    simp only[List.take_succ_cons,List.take_zero,List.drop_succ_cons,List.drop_zero,List.length_cons,List.length_nil,Nat.reduceAdd]
    iterate 3 ((with_reducible apply Ch.Walk.eq);(case hd=>rfl);(case hi=>rfl);case h=>(intro w2 hw2 N hN;simp only[Ch.depB];go_simp;(try go_bits);with_reducible exact hN _ (Chg.refl _ _) (fun _ h=>h)))
    ((with_reducible apply Ch.Walk.eq);(case hd=>rfl);(case hi=>rfl);case h=>(intro w2 hw2 N hN;(have hq:=hw2.cell c0 (fun h=>h));simp only[Ch.depB];go_simp;(try go_bits);with_reducible exact hN _ (Chg.refl _ _) (fun _ h=>h)))
    ((with_reducible apply Ch.Walk.eq);(case hd=>rfl);(case hi=>rfl);case h=>(intro w2 hw2 N hN;simp only[Ch.depB];go_simp;(try go_bits);with_reducible exact hN _ (Chg.refl _ _) (fun _ h=>h)))
    ((with_reducible apply Ch.Walk.eq);(case hd=>rfl);(case hi=>rfl);case h=>(intro w2 hw2 N hN;(have hq:=hw2.cell b1 (fun h=>h));simp only[Ch.depB];go_simp;(try go_bits);with_reducible exact hN _ (Chg.refl _ _) (fun _ h=>h)))
    (with_reducible apply Ch.Walk.eq);(case hd=>rfl);(case hi=>rfl);case h=>
     intro w2 hw2 N hN;simp only[Ch.depB,Ch.depC,Nat.reduceBEq,Nat.reduceAdd]
     go_simp;refine (HPK.out w2 (by omega) (by omega)).mono ?_
     rintro e w5 ⟨rfl,hw5⟩
     obtain rfl:=hw5.symm
     exact⟨_,rfl,hN _ (Chg.refl _ _) (fun _ h=>h)⟩
    intro w6 hw6;simp only[List.nil_append,List.cons_append,Ch.Fin,List.map_cons,List.map_nil,List.getD_cons_zero,List.getD_cons_succ]
    intro _;have HC6:=Lib.hid hw6
    have HWD6:=Lib.hid (HWD4.out.nil hw6)
    have HBX6:=Lib.hid (HBX4.out.chg hw6 (fun h=>h))
    clear c0 b1 hw6;simp only[Ch.thens_cons,Ch.thens_nil,Oper.wp]
    go_simp;refine (dfail_any HWD6.out.ds.a (pickN a 6:Nat) (by have:=HPL.out;omega)).mono ?_
    rintro e w7 ⟨rfl,hd7,hc7⟩
    have hwd7:=HWD6.out.disk hd7 (fun k hk=>.inl hk) hc7
    have HWD7:=Lib.hid hwd7.1
    have HBX7:=Lib.hid (HBX6.out.chg hwd7.2 (fun h=>h HB3.out))
    clear hd7 hc7 hwd7 hkk;go_wp2_with fail;go_meet
    case rel=>exact⟨rfl,_,_,HWD7.out,HWK4.out.1.failed ⟨by omega,by have:=HPL.out;omega⟩,fun h=>absurd h HKN.out,HBX7.out⟩
  obtain⟨rfl,S5,d5,HWD5,HWK5,HL5,HBX5⟩:=hcut
  clear HWD4 HWK4 HBX4;obtain⟨C,d',g',hC,hcase⟩:=HWK5.out.opens HM.out most
  have HOP:Hid (∀ w2,WD w0 w2 x p l most B2 S5 d5 va vg vm ve W→Calls Tryz.prog 10 #[.pointer (some ⟨p,0,none⟩),.string ⟨#[112]⟩,.int .i64 most,.int .i64 0] w2 fun e w3=>LOpenAt B2 w2 w3 p (openLg C [112] most 0 d5) e):=fun w2 h2=>
   lopen_any h2.ds (HT.out.chg h2.ch) (fun n hn k hk=>h2.b0 k (HT.out.lt n hn k hk)) [112] (by simp) most HMO.out 0 (by omega) C hC
  have HXB:Hid (B2 x):=HWD5.out.bw x (.inl rfl)
  have c0:wc.cell? ⟨x,0,none⟩=some (.pointer (some ⟨p,0,none⟩)):=HWD5.out.wm.c.cell (j:=0) rfl
  have c2:wc.cell? ⟨x,2,none⟩=some (.int .i64 most):=HWD5.out.wm.c.cell (j:=2) rfl
  clear hC;rcases hcase with ⟨hopn,hleft,hwk6⟩ | ⟨hopn,z',e0,b0,hwo⟩
  ·obtain⟨k1,rfl⟩:∃ k1,k=k1+1:=⟨k-1,by
    have h1:k≠0:=fun h=>hleft (HL5.out h)
    omega⟩
   have HWK6:=Lib.hid hwk6
   rw[hopn] at HOP;clear hopn hleft hwk6 HWK5 HL5;go_upto_region 6 with fail;refine Ch.wp_region_chain _ (Chg (Off B2)) [8] (OpnE w0 x p l most B2 S5 d5 d' va vg vm ve W) (by kernel_rfl) (fun _=>Chg.refl _ _) (fun _ _ _ h k=>h.trans k (fun _ h=>.inl h)) [[],[0],[1],[2],[],[4],[5],[6],[3,7],[8],[9],[9],[10],[11]] rfl (by kernel_rfl) (by kernel_rfl) (Chg.refl _ _).drew ?_ ?_
   ·exact HWD5.out.nil (Chg.refl Nil _).drew
   iterate 3 ((with_reducible apply Ch.Walk.eq);(case hd=>rfl);(case hi=>rfl);case h=>(intro w2 hw2 N hN;simp only[Ch.depB];go_simp;(try go_bits);with_reducible exact hN _ (Chg.refl _ _) (fun _ h=>h)))
   ((with_reducible apply Ch.Walk.eq);(case hd=>rfl);(case hi=>rfl);case h=>(intro w2 hw2 N hN;(have hq:=hw2.cell c0 (fun h=>h HXB.out));simp only[Ch.depB];go_simp;(try go_bits);with_reducible exact hN _ (Chg.refl _ _) (fun _ h=>h)))
   iterate 3 ((with_reducible apply Ch.Walk.eq);(case hd=>rfl);(case hi=>rfl);case h=>(intro w2 hw2 N hN;simp only[Ch.depB];go_simp;(try go_bits);with_reducible exact hN _ (Chg.refl _ _) (fun _ h=>h)))
   ((with_reducible apply Ch.Walk.eq);(case hd=>rfl);(case hi=>rfl);case h=>(intro w2 hw2 N hN;(have hq:=hw2.cell c2 (fun h=>h HXB.out));simp only[Ch.depB];go_simp;(try go_bits);with_reducible exact hN _ (Chg.refl _ _) (fun _ h=>h)))
   refine Ch.Walk.chainE 0 (c:=.tuple #[.pointer none,errD 14]) rfl rfl ?_ ?_
   ·intro w6 hw6 vs hvs hF N hN;obtain rfl:=List.eq_nil_of_length_eq_zero hvs
    have F3:WD w0 w6 x p l most B2 S5 d5 va vg vm ve W:=hF
    have HDO:=Lib.hid (HOP.out w6 F3)
    have HF3:=Lib.hid F3
    clear F3 hF;simp only[Ch.depB,Ch.depC,Nat.reduceBEq,Nat.reduceAdd]
    go_simp;refine HDO.out.mono ?_
    rintro e w7 ⟨hc7,hcase⟩
    rcases hcase with ⟨h1,_⟩ | ⟨_,S',rfl,h2⟩
    ·exact absurd (show (14:Nat)=0 from h1) (by decide)
    ·exact⟨_,rfl,hN _ hc7 ⟨S',HF3.out.off hc7 h2⟩⟩
   iterate 5 ((with_reducible apply Ch.Walk.eq);(case hd=>rfl);(case hi=>rfl);case h=>(intro w2 hw2 N hN;simp only[Ch.depB];go_simp;(try go_bits);with_reducible exact hN _ (Chg.refl _ _) (fun _ h=>h)))
   intro w6 hw6;simp only[List.nil_append,List.cons_append,Ch.Fin,List.map_cons,List.map_nil,List.getD_cons_zero,List.getD_cons_succ]
   rintro⟨S6,hwd6⟩
   have HWD6:=Lib.hid hwd6
   have HBX6:=Lib.hid (HBX5.out.chg hw6 (fun h=>h HB3.out))
   have HTE:=Lib.hid (tell_errno 14 w6 (HHN.out.chg hwd6.ch (fun h=>h)))
   have he:errD 14 = .iface 65 (.int .i64 14):=rfl
   rw[he];have hkk:(0:Int)<((k1+1:Nat):Int):=by omega
   have hkm:(((k1+1:Nat):Int))≤3:=by have:=HK.out;omega
   clear hw6 hwd6 c0 c2 he HWD5 HBX5 HOP;go_wp2_with fail;refine HTE.out.mono ?_
   rintro e w7 ⟨rfl,hc7⟩
   have HWD7:=Lib.hid (HWD6.out.nil hc7)
   have HBX7:=Lib.hid (HBX6.out.chg hc7 (fun h=>h))
   clear hc7;go_wp2_with fail;go_roundw
   case rel=>exact⟨_,k1,S6,d',rfl,by go_num,(by have:=HK.out;unfold Hid;omega),HWD7.out,HWK6.out,HBX7.out⟩
   case measure=>
    show ((k1:Nat):Int).toNat<(((k1+1:Nat):Int)).toNat
    omega
  ·have HWO:=Lib.hid hwo
   have HWB:Hid ((∀ k,k<w0.heap.size→B2 k)∧∀ k,WHas x va vg vm ve k→B2 k):=⟨HWD5.out.b0,HWD5.out.bw⟩
   rw[hopn] at HOP;clear hopn hwo HWK5 HL5;go_upto_region 6 with fail;refine Ch.wp_region_chain _ (Chg (Off B2)) [8,9,10,12] (OpnF w0 x p l most B2 S5 d5 d' g' va vg vm ve W) (by kernel_rfl) (fun _=>Chg.refl _ _) (fun _ _ _ h k=>h.trans k (fun _ h=>.inl h)) [[],[0],[1],[2],[],[4],[5],[6],[3,7],[8],[9],[9],[10],[11]] rfl (by kernel_rfl) (by kernel_rfl) (Chg.refl _ _).drew ?_ ?_
   ·exact HWD5.out.nil (Chg.refl Nil _).drew
   iterate 3 ((with_reducible apply Ch.Walk.eq);(case hd=>rfl);(case hi=>rfl);case h=>(intro w2 hw2 N hN;simp only[Ch.depB];go_simp;(try go_bits);with_reducible exact hN _ (Chg.refl _ _) (fun _ h=>h)))
   ((with_reducible apply Ch.Walk.eq);(case hd=>rfl);(case hi=>rfl);case h=>(intro w2 hw2 N hN;(have hq:=hw2.cell c0 (fun h=>h HXB.out));simp only[Ch.depB];go_simp;(try go_bits);with_reducible exact hN _ (Chg.refl _ _) (fun _ h=>h)))
   iterate 3 ((with_reducible apply Ch.Walk.eq);(case hd=>rfl);(case hi=>rfl);case h=>(intro w2 hw2 N hN;simp only[Ch.depB];go_simp;(try go_bits);with_reducible exact hN _ (Chg.refl _ _) (fun _ h=>h)))
   ((with_reducible apply Ch.Walk.eq);(case hd=>rfl);(case hi=>rfl);case h=>(intro w2 hw2 N hN;(have hq:=hw2.cell c2 (fun h=>h HXB.out));simp only[Ch.depB];go_simp;(try go_bits);with_reducible exact hN _ (Chg.refl _ _) (fun _ h=>h)))
   simp only[List.nil_append,List.cons_append]
   refine Ch.Walk.chainP 0 MkP (fun _ _ _ h _=>h) rfl rfl ?_ ?_
   ·intro w6 hw6 vs hvs hF N hN;obtain rfl:=List.eq_nil_of_length_eq_zero hvs
    have F3:WD w0 w6 x p l most B2 S5 d5 va vg vm ve W:=hF
    have HDO:=Lib.hid (HOP.out w6 F3)
    have HF3:=Lib.hid F3
    clear F3 hF;simp only[Ch.depB,Ch.depC,Nat.reduceBEq,Nat.reduceAdd]
    go_simp;refine HDO.out.mono ?_
    rintro e w7 ⟨hc7,hcase⟩
    rcases hcase with ⟨_,l2,S',sv2,ss2,rfl,_,h2⟩ | ⟨h1,_⟩
    ·have h3:=HF3.out
     refine⟨_,rfl,hN _ _ ⟨l2,rfl⟩ hc7 ⟨l2,S',sv2,ss2,rfl,h2,h3.wm.chg hc7 (fun k hk ho=>ho (h3.bw k hk)),h3.ch.trans hc7 (fun k hk=>.inr (Nat.le_of_not_lt fun hlt=>hk (h3.b0 k hlt))),fun y hy=>(by simp at hy),fun y hy=>(by simp at hy),fun y hy=>(by simp at hy)⟩⟩
    ·exact absurd (show (0:Nat)=0 from rfl) h1
   simp only[List.nil_append,List.cons_append]
   refine Ch.Walk.chainP 1 MkP (fun _ _ _ h _=>h) rfl rfl ?_ ?_
   ·intro w2 hw2 vs hvs hF N hN;have ev:=eq1 hvs
    generalize vs.getD 0 undef=v at ev;subst ev;refine hF.elim fun l2 hF=>hF.elim fun S' hF=>hF.elim fun sv2 hF=>hF.elim fun ss2 hF=>?_
    have e0:=hF.1
    have h2:=hF.2.1
    have h3:=hF.2.2.1
    have h4:=hF.2.2.2.1
    clear hF;subst e0;simp only[Ch.depB,Ch.depC,Nat.reduceBEq,Nat.reduceAdd]
    go_simp;exact hN _ _ ⟨l2,rfl⟩ (Chg.refl _ _) ⟨l2,S',sv2,ss2,rfl,h2,h3,h4,fun y hy=>(by simpa using hy.symm),fun y hy=>(by simp at hy),fun y hy=>(by simp at hy)⟩
   simp only[List.nil_append,List.cons_append]
   refine Ch.Walk.chain 2 rfl rfl ?_ ?_
   ·intro w2 hw2 vs hvs hF N hN;have ev:=eq2 hvs
    generalize vs.getD 0 undef=v at ev;generalize vs.getD 1 undef=y at ev;subst ev;refine hF.elim fun l2 hF=>hF.elim fun S' hF=>hF.elim fun sv2 hF=>hF.elim fun ss2 hF=>?_
    have e0:=hF.1
    have h2:=hF.2.1
    have h3:=hF.2.2.1
    have h4:=hF.2.2.2.1
    have e1:=hF.2.2.2.2.1 y rfl
    clear hF;subst e0;subst e1;simp only[Ch.depB,Ch.depC,Nat.reduceBEq,Nat.reduceAdd]
    go_simp;exact hN _ _ (Chg.refl _ _) ⟨l2,S',sv2,ss2,rfl,h2,h3,h4,fun y hy=>(by simpa using hy.symm),fun y hy=>(by simpa using hy.symm),fun y hy=>(by simp at hy)⟩
   simp only[List.nil_append,List.cons_append]
   (with_reducible apply Ch.Walk.eq);(case hd=>rfl);(case hi=>rfl);case h=>
    intro w2 hw2 N hN;simp only[Ch.depB,Ch.depC,Nat.reduceBEq,Nat.reduceAdd]
    intro v hv;refine hv.elim fun l2 e0=>?_
    subst e0;go_simp;with_reducible exact hN _ (Chg.refl _ _) (fun _ h=>h)
   simp only[List.nil_append,List.cons_append]
   refine Ch.Walk.chain 3 rfl rfl ?_ ?_
   ·intro w2 hw2 vs hvs hF N hN;have ev:=eq3 hvs
    generalize vs.getD 0 undef=v at ev;generalize vs.getD 1 undef=y at ev;generalize vs.getD 2 undef=z9 at ev;subst ev;refine hF.elim fun l2 hF=>hF.elim fun S' hF=>hF.elim fun sv2 hF=>hF.elim fun ss2 hF=>?_
    have e0:=hF.1
    have h2:=hF.2.1
    have h3:=hF.2.2.1
    have h4:=hF.2.2.2.1
    have e1:=hF.2.2.2.2.1 y rfl
    have e2:=hF.2.2.2.2.2.1 z9 rfl
    clear hF;subst e0;subst e1;subst e2;simp only[Ch.depB,Ch.depC,Nat.reduceBEq,Nat.reduceAdd]
    go_simp;exact hN _ _ (Chg.refl _ _) ⟨l2,S',sv2,ss2,rfl,h2,h3,h4,fun y hy=>(by simpa using hy.symm),fun y hy=>(by simpa using hy.symm),fun y hy=>(by simpa using hy.symm)⟩
   ((with_reducible apply Ch.Walk.eq);(case hd=>rfl);(case hi=>rfl);case h=>(intro w2 hw2 N hN;simp only[Ch.depB];go_simp;(try go_bits);with_reducible exact hN _ (Chg.refl _ _) (fun _ h=>h)))
   intro w6 hw6;simp only[List.nil_append,List.cons_append,Ch.Fin,List.map_cons,List.map_nil,List.getD_cons_zero,List.getD_cons_succ]
   intro v8 _ v9 _ v10 _ v12 _ hF;have e12:=(OpnF.end' hF).1
   have H12:=Lib.hid (OpnF.end' hF).2
   have HBX6:=Lib.hid (HBX5.out.chg hw6 (fun h=>h HB3.out))
   clear hF hw6 c0 c2 HWD5 HBX5 HBX6 HOP HXB HK HFB2 HFN HFL HFB HF HB3 HP3L;generalize vP v12=l2 at e12 H12;subst e12;go_simp;obtain⟨S6,sv6,ss6,hl6,hm6,hc6⟩:=H12.out
   have hup:=HWO.out.up
   have hlen6:ss6.length=ys.length+1:=by rw[hl6.len,hup.c.up.ok.len,List.length_append,List.length_singleton]
   have HL6:=Lib.hid hl6
   have HM6:=Lib.hid hm6
   have HC6:=Lib.hid hc6
   have HN6:=Lib.hid hlen6
   have c0:w6.cell? ⟨x,0,none⟩=some (.pointer (some ⟨p,0,none⟩)):=hm6.c.cell (j:=0) rfl
   have HB0:Hid (∀ k,k<w0.heap.size→B2 k):=HWB.out.1
   have HBW:Hid (∀ k,WHas x va vg vm ve k→B2 k):=HWB.out.2
   clear hl6 hm6 hc6 hlen6 hup H12;go_wp2_with fail;refine (dfail_any HL6.out.a (-1) (by omega)).mono ?_
   rintro e w8 ⟨rfl,hd8,hc8⟩
   have hl8:=HL6.out.diskTo hd8 (fun k hk=>.inl hk) hc8
   have HL8:=Lib.hid hl8.1
   have hm8:=HM6.out.chg hl8.2 (fun k hk ho=>ho (HBW.out k hk))
   have hc8':=HC6.out.trans hl8.2 (fun k hk=>.inr (Nat.le_of_not_lt fun hlt=>hk (HB0.out k hlt)))
   have HM8:=Lib.hid hm8
   have HC8:=Lib.hid hc8'
   have d1:=hm8.c.cell (j:=1) rfl
   have f1:=hm8.c.free 1
   have d9:=hm8.c.cell (j:=9) rfl
   have f9:=hm8.c.free 9
   clear hd8 hc8 hl8 hm8 hc8' HL6 HM6 HC6 c0;go_upto_region 12 with fail;obtain⟨B9,hs9⟩:=WMem.anew HL8.out HM8.out HB0.out HBW.out HC8.out (by have:=HN6.out;omega) rfl
   clear d1 f1 d9 f9 HL8 HM8 HC8 HB0 HBW;generalize (w8.setCell ⟨x,1,none⟩ (.pointer (some ⟨l2,0,none⟩))).setCell ⟨x,9,none⟩ (.bool false)=w9 at *
   have HS9:=Lib.hid hs9
   clear hs9;have hmx:max (-1:Int) (-1) = -1:=by decide
   rw[hmx] at HS9;have HUP:Hid (WUp (((W.cutAt e0).seen (missL b0 e0 (recsOf (allBts (ys++[z']))))).anew e0 (b0:Nat)) { d' with left:=-1 } g' ys z' m):=HWO.out.up.failed ⟨by omega,by omega⟩
   have hn9:LgN B9 w9 ss6 g':=HUP.out.needs' HS9.out.lg (HS9.out.hand HHN.out).1 (HS9.out.hand HHN.out).2 (by have:=HM.out;omega)
   have HEN:Hid (∀ w',Chg Nil w9 w'→Calls Tryz.prog 15 #[.pointer (some ⟨l2,0,none⟩)] w' fun e w''=>e = .returned (.int .i64 (e0:Nat))∧Chg Nil w' w''):=fun w' hw=>by
    have h1:=lend_any (HS9.out.nil hw).lg.t hn9.ne hn9.few (by have:=hn9.pls;omega)
    rw[HWO.out.stop] at h1;exact h1
   have HSTA:Hid (∀ w',Box w' l2 (g'.cells p sv6) 99→Calls Tryz.prog 16 #[.pointer (some ⟨l2,0,none⟩)] w' fun e w''=>e = .returned (.int .i64 (b0:Nat))∧Chg Nil w' w''):=fun w' hb=>by
    have h1:=lstart_any hb
    rw[HWO.out.start] at h1;exact h1
   have hN:W.all.length=W.all.length:=rfl
   have hE:W.ends.length=W.ends.length:=rfl
   obtain⟨aa,ac,hva,haca,-⟩:=HS9.out.wm.a.valAt
   obtain⟨ga,gc,hvg,hgca,-⟩:=HS9.out.wm.g.val
   obtain⟨ma,mc,hvm,hmca,-⟩:=HS9.out.wm.m.val
   obtain⟨ea,ec,hve,heca,hecell⟩:=HS9.out.wm.e.val
   replace hva:va = .slice aa W.all.length ac:=hva
   replace hvg:vg = .slice ga W.all.length gc:=by rw[←HWK.out.gl];exact hvg
   replace hvm:vm = .slice ma W.all.length mc:=by rw[←HWK.out.ml];exact hvm
   replace hve:ve = .slice ea W.ends.length ec:=hve
   replace haca:W.all.length≤ac:=haca
   replace hgca:W.all.length≤gc:=by rw[←HWK.out.gl];exact hgca
   replace hmca:W.all.length≤mc:=by rw[←HWK.out.ml];exact hmca
   have hE6:W.ends.length≤1000:=by have:=HWK.out.few;have:=HM.out;omega
   have he0W.all.length:e0≤W.all.length:=HWO.out.le
   subst hva hvg hvm hve;have HN:=Lib.hid hN
   have HE:=Lib.hid hE
   have HE6:=Lib.hid hE6
   have HENL:=Lib.hid he0W.all.length
   have HCAP:Hid (W.all.length≤ac∧W.all.length≤gc∧W.all.length≤mc):=⟨haca,hgca,hmca⟩
   have HECELL:=Lib.hid hecell
   have c1:w9.cell? ⟨x,1,none⟩=some (.pointer (some ⟨l2,0,none⟩)):=HS9.out.wm.c.cell (j:=1) rfl
   clear hN hE haca hgca hmca heca hecell hE6 he0W.all.length hmx hn9
   go_wp2_with fail;refine (HEN.out w9 (Chg.refl _ _)).mono ?_
   rintro e w10 ⟨rfl,hc10⟩
   have HS10:=Lib.hid (HS9.out.nil hc10)
   have HECELL2:Hid (∀ i (h:i<W.ends.length),∃ g,ea=some ⟨g,0,none⟩∧w10.cell? ⟨g,i,none⟩=some (.int .i64 W.ends[i])):=fun i hi=>by
    obtain⟨g,h1,h2⟩:=HECELL.out i hi
    exact⟨g,h1,hc10.cell h2 (fun h=>h)⟩
   have c7:w10.cell? ⟨x,7,none⟩=some (.int .i64 W.safe):=HS10.out.wm.c.cell (j:=7) rfl
   have c6:w10.cell? ⟨x,6,none⟩=some (.slice ea W.ends.length ec):=HS10.out.wm.c.cell (j:=6) rfl
   have c1':w10.cell? ⟨x,1,none⟩=some (.pointer (some ⟨l2,0,none⟩)):=HS10.out.wm.c.cell (j:=1) rfl
   have hsf:W.safe≤(e0:Nat):=HWO.out.safe
   clear hc10 c1 HS9 HEN HECELL;go_upto_region 14 with fail;clear hsf c7;go_wp2_with fail;go_loopw [10,11] (fun av iv wr=>∃ (i:Nat),Hid (w10=wr)∧av = .bool ((W.ends.take i).any (fun n=>n==(e0:Int)))∧iv = .int .i64 (i:Nat)∧Hid (i≤W.ends.length)) (fun _ iv _=>W.ends.length-(RowKit.intOf iv).toNat)
   case atStart=>exact⟨0,rfl,rfl,rfl,Nat.zero_le _⟩
   case round=>
    obtain⟨i,hw10,rfl,rfl,HI⟩:=hrel
    obtain rfl:=hw10.out
    clear hw10;obtain⟨bb,hbb⟩:∃ bb,(W.ends.take i).any (fun n=>n==(e0:Int))=bb:=⟨_,rfl⟩
    rw[hbb];have HBB:=Lib.hid hbb
    clear hbb;have hiE:i≤W.ends.length:=HI.out
    by_cases hie:i<W.ends.length
    ·have hii:(i:Int)<(W.ends.length:Int):=by omega
     have hiL:i<W.ends.length:=by exact hie
     obtain⟨eb,heb,hez⟩:=HECELL2.out i hiL
     have hstep:=any_at hiL (e0:Int)
     rw[HBB.out] at hstep;obtain⟨q,hq⟩:∃ q,W.ends[i]=q:=⟨_,rfl⟩
     rw[hq] at hez hstep
     have HST:=Lib.hid hstep
     have HIE:=Lib.hid hie
     have hE6:=HE6.out
     subst heb;clear hiL hstep hq hiE;cases bb with
     | true=>
       clear hez;go_wp2_with fail;go_roundw
       case rel=>exact⟨i+1,Lib.hid trivial,by rw[HST.out];rfl,by go_num,HIE.out⟩
       case measure=>exact meas_two HIE.out
     | false=>
       by_cases hqe:q=(e0:Int)
       ·subst hqe;go_wp2_with fail;go_roundw
        case rel=>exact⟨i+1,Lib.hid trivial,by rw[HST.out];simp,by go_num,HIE.out⟩
        case measure=>exact meas_two HIE.out
       ·have hqb:(q==(e0:Int))=false:=beq_eq_false_iff_ne.2 hqe
        go_wp2_with fail;go_roundw
        case rel=>exact⟨i+1,Lib.hid trivial,by rw[HST.out,hqb];rfl,by go_num,HIE.out⟩
        case measure=>exact meas_two HIE.out
    ·have hiE2:i=W.ends.length:=by omega
     subst hiE2;have hni:¬((W.ends.length:Nat):Int)<((W.ends.length:Nat):Int):=by omega
     obtain rfl:bb=true:=by
       rw[←HBB.out,List.take_of_length_le (Nat.le_refl _),List.any_eq_true]
       exact⟨(e0:Int),HWO.out.mem,beq_self_eq_true _⟩
     clear HBB hie hiE HI HECELL2;go_upto_region 19 with fail;clear c6 hni;have c8:w10.cell? ⟨x,8,none⟩=some (.int .i64 W.start):=HS10.out.wm.c.cell (j:=8) rfl
     have hbe:¬((e0:Nat):Int)<((b0:Nat):Int):=by have:=HWO.out.be;omega
     go_cut [129] (fun bv wy=>bv = .bool false∧Hid (WS w0 wy x p l2 most B9 S6 sv6 ss6 { d' with left:=-1 } g' (.slice aa W.all.length ac) (.slice ga W.all.length gc) (.slice ma W.all.length mc) (.slice ea W.ends.length ec) { W with down:=false }))
     case first=>
      by_cases hgt:W.start<((b0:Nat):Int)
      ·
       refine Ch.wp_region_chain _ (Chg (Nil)) [] (fun _ _=>True) (by kernel_rfl) (fun _=>Chg.refl _ _) (fun _ _ _ h k=>h.trans k (fun _ h=>.inl h)) [[],[0],[1],[2],[2,3],[2,4],[5],[6],[6,7],[6,8],[6,9],[6,10],[6],[6,12],[6,13],[6,14],[6,11,15],[6,16],[17],[17,18],[17,19],[17,20],[17,21],[17],[17,22,23],[6,17,24],[6,25]] rfl (by kernel_rfl) (by kernel_rfl) (Chg.refl _ _).drew ?_ ?_
       ·trivial
       iterate 10 ((with_reducible apply Ch.Walk.eq);(case hd=>rfl);(case hi=>rfl);case h=>(intro w2 hw2 N hN;simp only[Ch.depB];go_simp;(try go_bits);with_reducible exact hN _ (Chg.refl _ _) (fun _ h=>h)))
       simp only[List.nil_append,List.cons_append]
       ((with_reducible apply Ch.Walk.eq);(case hd=>rfl);(case hi=>rfl);case h=>(intro w2 hw2 N hN;(have hq:=hw2.cell c1' (fun h=>h));simp only[Ch.depB];go_simp;(try go_bits);with_reducible exact hN _ (Chg.refl _ _) (fun _ h=>h)))
       (with_reducible apply Ch.Walk.eq);(case hd=>rfl);(case hi=>rfl);case h=>
        intro w2 hw2 NN hNN;simp only[Ch.depB,Ch.depC,Nat.reduceBEq,Nat.reduceAdd]
        go_simp;refine (HSTA.out w2 ((HS10.out.nil hw2).lg.c)).mono ?_
        rintro e w5 ⟨rfl,hc5⟩
        exact⟨_,rfl,hNN _ hc5 (fun _ h=>h)⟩
       simp only[List.nil_append,List.cons_append]
       iterate 3 ((with_reducible apply Ch.Walk.eq);(case hd=>rfl);(case hi=>rfl);case h=>(intro w2 hw2 N hN;simp only[Ch.depB];go_simp;(try go_bits);with_reducible exact hN _ (Chg.refl _ _) (fun _ h=>h)))
       ((with_reducible apply Ch.Walk.eq);(case hd=>rfl);(case hi=>rfl);case h=>(intro w2 hw2 N hN;(have hq:=hw2.cell c8 (fun h=>h));simp only[Ch.depB];go_simp;(try go_bits);with_reducible exact hN _ (Chg.refl _ _) (fun _ h=>h)))
       simp only[List.nil_append,List.cons_append]
       iterate 5 ((with_reducible apply Ch.Walk.eq);(case hd=>rfl);(case hi=>rfl);case h=>(intro w2 hw2 N hN;simp only[Ch.depB];go_simp;(try go_bits);with_reducible exact hN _ (Chg.refl _ _) (fun _ h=>h)))
       simp only[List.nil_append,List.cons_append]
       ((with_reducible apply Ch.Walk.eq);(case hd=>rfl);(case hi=>rfl);case h=>(intro w2 hw2 N hN;(have hq:=hw2.cell c1' (fun h=>h));simp only[Ch.depB];go_simp;(try go_bits);with_reducible exact hN _ (Chg.refl _ _) (fun _ h=>h)))
       simp only[List.nil_append,List.cons_append]
       (with_reducible apply Ch.Walk.eq);(case hd=>rfl);(case hi=>rfl);case h=>
        intro w2 hw2 NN hNN;simp only[Ch.depB,Ch.depC,Nat.reduceBEq,Nat.reduceAdd]
        go_simp;refine (HSTA.out w2 ((HS10.out.nil hw2).lg.c)).mono ?_
        rintro e w5 ⟨rfl,hc5⟩
        exact⟨_,rfl,hNN _ hc5 (fun _ h=>h)⟩
       simp only[List.nil_append,List.cons_append]
       iterate 4 ((with_reducible apply Ch.Walk.eq);(case hd=>rfl);(case hi=>rfl);case h=>(intro w2 hw2 N hN;simp only[Ch.depB];go_simp;(try go_bits);with_reducible exact hN _ (Chg.refl _ _) (fun _ h=>h)))
       intro w2 hw2;simp only[List.nil_append,List.cons_append,Ch.Fin,List.map_cons,List.map_nil,List.getD_cons_zero,List.getD_cons_succ]
       intro _;have HW2:=Lib.hid hw2
       clear hw2;go_simp;go_wp2_with fail;go_meet
       case rel=>exact⟨rfl,HS10.out.nil HW2.out⟩
      ·
       refine Ch.wp_region_chain _ (Chg (Nil)) [] (fun _ _=>True) (by kernel_rfl) (fun _=>Chg.refl _ _) (fun _ _ _ h k=>h.trans k (fun _ h=>.inl h)) [[],[0],[1],[2],[2,3],[2,4],[5],[6],[6,7],[6,8],[6,9],[6,10],[6],[6,12],[6,13],[6,14],[6,11,15],[6,16],[17],[17,18],[17,19],[17,20],[17,21],[17],[17,22,23],[6,17,24],[6,25]] rfl (by kernel_rfl) (by kernel_rfl) (Chg.refl _ _).drew ?_ ?_
       ·trivial
       iterate 10 ((with_reducible apply Ch.Walk.eq);(case hd=>rfl);(case hi=>rfl);case h=>(intro w2 hw2 N hN;simp only[Ch.depB];go_simp;(try go_bits);with_reducible exact hN _ (Chg.refl _ _) (fun _ h=>h)))
       simp only[List.nil_append,List.cons_append]
       ((with_reducible apply Ch.Walk.eq);(case hd=>rfl);(case hi=>rfl);case h=>(intro w2 hw2 N hN;(have hq:=hw2.cell c1' (fun h=>h));simp only[Ch.depB];go_simp;(try go_bits);with_reducible exact hN _ (Chg.refl _ _) (fun _ h=>h)))
       (with_reducible apply Ch.Walk.eq);(case hd=>rfl);(case hi=>rfl);case h=>
        intro w2 hw2 NN hNN;simp only[Ch.depB,Ch.depC,Nat.reduceBEq,Nat.reduceAdd]
        go_simp;refine (HSTA.out w2 ((HS10.out.nil hw2).lg.c)).mono ?_
        rintro e w5 ⟨rfl,hc5⟩
        exact⟨_,rfl,hNN _ hc5 (fun _ h=>h)⟩
       simp only[List.nil_append,List.cons_append]
       iterate 3 ((with_reducible apply Ch.Walk.eq);(case hd=>rfl);(case hi=>rfl);case h=>(intro w2 hw2 N hN;simp only[Ch.depB];go_simp;(try go_bits);with_reducible exact hN _ (Chg.refl _ _) (fun _ h=>h)))
       ((with_reducible apply Ch.Walk.eq);(case hd=>rfl);(case hi=>rfl);case h=>(intro w2 hw2 N hN;(have hq:=hw2.cell c8 (fun h=>h));simp only[Ch.depB];go_simp;(try go_bits);with_reducible exact hN _ (Chg.refl _ _) (fun _ h=>h)))
       simp only[List.nil_append,List.cons_append]
       iterate 5 ((with_reducible apply Ch.Walk.eq);(case hd=>rfl);(case hi=>rfl);case h=>(intro w2 hw2 N hN;simp only[Ch.depB];go_simp;(try go_bits);with_reducible exact hN _ (Chg.refl _ _) (fun _ h=>h)))
       simp only[List.nil_append,List.cons_append]
       iterate 6 ((with_reducible apply Ch.Walk.eq);(case hd=>rfl);(case hi=>rfl);case h=>(intro w2 hw2 N hN;simp only[Ch.depB];go_simp;(try go_bits);with_reducible exact hN _ (Chg.refl _ _) (fun _ h=>h)))
       intro w2 hw2;simp only[List.nil_append,List.cons_append,Ch.Fin,List.map_cons,List.map_nil,List.getD_cons_zero,List.getD_cons_succ]
       intro _;have HW2:=Lib.hid hw2
       clear hw2;go_simp;go_wp2_with fail;go_meet
       case rel=>exact⟨rfl,HS10.out.nil HW2.out⟩
     obtain⟨rfl,HS11⟩:=hcut
     clear c8 c1' hbe HS10;go_upto_region 21 with fail;have HQ0:Hid ((CutQ x p l2 most (.slice aa W.all.length ac) (.slice aa e0 ac) (.slice ga W.all.length gc) (.slice ga e0 gc) (.slice ma W.all.length mc) (.slice ma e0 mc) (.slice ea W.ends.length ec) { W with down:=false }) wc):=⟨_,_,_,.inl rfl,.inl rfl,.inl rfl,HS11.out.wm.c⟩
     have hcpa:((e0:Nat):Int)≤(ac:Int):=by have:=HCAP.out;have:=HENL.out;omega
     have hcpg:((e0:Nat):Int)≤(gc:Int):=by have:=HCAP.out;have:=HENL.out;omega
     have hcpm:((e0:Nat):Int)≤(mc:Int):=by have:=HCAP.out;have:=HENL.out;omega
     refine Ch.wp_region_chain _ (QR (CutQ x p l2 most (.slice aa W.all.length ac) (.slice aa e0 ac) (.slice ga W.all.length gc) (.slice ga e0 gc) (.slice ma W.all.length mc) (.slice ma e0 mc) (.slice ea W.ends.length ec) { W with down:=false }) (fun k=>k=x)) [23,26,29] (CutF x p l2 most (.slice aa W.all.length ac) (.slice aa e0 ac) (.slice ga W.all.length gc) (.slice ga e0 gc) (.slice ma W.all.length mc) (.slice ma e0 mc) (.slice ea W.ends.length ec) { W with down:=false }) (by kernel_rfl) (fun _=>QR.refl _) (fun _ _ _ h k=>h.trans k) [[],[],[],[],[3],[4],[5],[],[6,7],[],[9],[10],[11],[],[12,13],[],[15],[16],[17],[],[18,19],[0],[21],[8,22],[1],[24],[14,25],[2],[27],[20,28]] rfl (by kernel_rfl) (by kernel_rfl) ⟨(Chg.refl _ _).drew,fun h=>h⟩ ?_ ?_
     · exact HS11.out.wm.c.chg (Chg.refl Nil _).drew (fun h=>h)
     iterate 6 ((with_reducible apply Ch.Walk.eq);(case hd=>rfl);(case hi=>rfl);case h=>(intro w2 hw2 N hN;simp only[Ch.depB];go_simp;(try go_bits);with_reducible exact hN _ (QR.refl _) (fun _ h=>h)))
     simp only[List.nil_append,List.cons_append]
     refine Ch.Walk.sat (fun v _=>v=(.slice aa W.all.length ac)∨v=(.slice aa e0 ac)) (fun _ _ _ h _=>h) rfl rfl ?_ ?_
     · intro w2 hw2 N' hN';obtain⟨v3,v4,v5,h3,h4,h5,hb⟩:=hw2.2 HQ0.out
       have qq:w2.cell? ⟨x,3,none⟩=some v3:=hb.cell (j:=3) rfl
       have hh:=h3
       clear hb h3 h4 h5;rcases hh with rfl | rfl
       ·simp only[Ch.depB,Ch.depC,Nat.reduceBEq,Nat.reduceAdd]
        go_simp;exact hN' _ _ (.inl rfl) (QR.refl _) (fun _ h=>h)
       ·simp only[Ch.depB,Ch.depC,Nat.reduceBEq,Nat.reduceAdd]
        go_simp;exact hN' _ _ (.inr rfl) (QR.refl _) (fun _ h=>h)
     simp only[List.nil_append,List.cons_append]
     ((with_reducible apply Ch.Walk.eq);(case hd=>rfl);(case hi=>rfl);case h=>(intro w2 hw2 N hN;simp only[Ch.depB];go_simp;(try go_bits);with_reducible exact hN _ (QR.refl _) (fun _ h=>h)))
     simp only[List.nil_append,List.cons_append]
     (with_reducible apply Ch.Walk.eq);(case hd=>rfl);(case hi=>rfl);case h=>
       intro w2 hw2 N' hN';simp only[Ch.depB,Ch.depC,Nat.reduceBEq,Nat.reduceAdd]
       rintro v (rfl | rfl)
       ·go_simp;exact hN' _ (QR.refl _) (fun _ h=>h)
       ·go_simp;exact hN' _ (QR.refl _) (fun _ h=>h)
     simp only[List.nil_append,List.cons_append]
     iterate 3 ((with_reducible apply Ch.Walk.eq);(case hd=>rfl);(case hi=>rfl);case h=>(intro w2 hw2 N hN;simp only[Ch.depB];go_simp;(try go_bits);with_reducible exact hN _ (QR.refl _) (fun _ h=>h)))
     simp only[List.nil_append,List.cons_append]
     refine Ch.Walk.sat (fun v _=>v=(.slice ga W.all.length gc)∨v=(.slice ga e0 gc)) (fun _ _ _ h _=>h) rfl rfl ?_ ?_
     · intro w2 hw2 N' hN';obtain⟨v3,v4,v5,h3,h4,h5,hb⟩:=hw2.2 HQ0.out
       have qq:w2.cell? ⟨x,4,none⟩=some v4:=hb.cell (j:=4) rfl
       have hh:=h4
       clear hb h3 h4 h5;rcases hh with rfl | rfl
       ·simp only[Ch.depB,Ch.depC,Nat.reduceBEq,Nat.reduceAdd]
        go_simp;exact hN' _ _ (.inl rfl) (QR.refl _) (fun _ h=>h)
       ·simp only[Ch.depB,Ch.depC,Nat.reduceBEq,Nat.reduceAdd]
        go_simp;exact hN' _ _ (.inr rfl) (QR.refl _) (fun _ h=>h)
     simp only[List.nil_append,List.cons_append]
     ((with_reducible apply Ch.Walk.eq);(case hd=>rfl);(case hi=>rfl);case h=>(intro w2 hw2 N hN;simp only[Ch.depB];go_simp;(try go_bits);with_reducible exact hN _ (QR.refl _) (fun _ h=>h)))
     simp only[List.nil_append,List.cons_append]
     (with_reducible apply Ch.Walk.eq);(case hd=>rfl);(case hi=>rfl);case h=>
       intro w2 hw2 N' hN';simp only[Ch.depB,Ch.depC,Nat.reduceBEq,Nat.reduceAdd]
       rintro v (rfl | rfl)
       ·go_simp;exact hN' _ (QR.refl _) (fun _ h=>h)
       ·go_simp;exact hN' _ (QR.refl _) (fun _ h=>h)
     simp only[List.nil_append,List.cons_append]
     iterate 3 ((with_reducible apply Ch.Walk.eq);(case hd=>rfl);(case hi=>rfl);case h=>(intro w2 hw2 N hN;simp only[Ch.depB];go_simp;(try go_bits);with_reducible exact hN _ (QR.refl _) (fun _ h=>h)))
     simp only[List.nil_append,List.cons_append]
     refine Ch.Walk.sat (fun v _=>v=(.slice ma W.all.length mc)∨v=(.slice ma e0 mc)) (fun _ _ _ h _=>h) rfl rfl ?_ ?_
     · intro w2 hw2 N' hN';obtain⟨v3,v4,v5,h3,h4,h5,hb⟩:=hw2.2 HQ0.out
       have qq:w2.cell? ⟨x,5,none⟩=some v5:=hb.cell (j:=5) rfl
       have hh:=h5
       clear hb h3 h4 h5;rcases hh with rfl | rfl
       ·simp only[Ch.depB,Ch.depC,Nat.reduceBEq,Nat.reduceAdd]
        go_simp;exact hN' _ _ (.inl rfl) (QR.refl _) (fun _ h=>h)
       ·simp only[Ch.depB,Ch.depC,Nat.reduceBEq,Nat.reduceAdd]
        go_simp;exact hN' _ _ (.inr rfl) (QR.refl _) (fun _ h=>h)
     simp only[List.nil_append,List.cons_append]
     ((with_reducible apply Ch.Walk.eq);(case hd=>rfl);(case hi=>rfl);case h=>(intro w2 hw2 N hN;simp only[Ch.depB];go_simp;(try go_bits);with_reducible exact hN _ (QR.refl _) (fun _ h=>h)))
     simp only[List.nil_append,List.cons_append]
     (with_reducible apply Ch.Walk.eq);(case hd=>rfl);(case hi=>rfl);case h=>
       intro w2 hw2 N' hN';simp only[Ch.depB,Ch.depC,Nat.reduceBEq,Nat.reduceAdd]
       rintro v (rfl | rfl)
       ·go_simp;exact hN' _ (QR.refl _) (fun _ h=>h)
       ·go_simp;exact hN' _ (QR.refl _) (fun _ h=>h)
     simp only[List.nil_append,List.cons_append]
     iterate 2 ((with_reducible apply Ch.Walk.eq);(case hd=>rfl);(case hi=>rfl);case h=>(intro w2 hw2 N hN;simp only[Ch.depB];go_simp;(try go_bits);with_reducible exact hN _ (QR.refl _) (fun _ h=>h)))
     simp only[List.nil_append,List.cons_append]
     refine Ch.Walk.chainS 0 rfl rfl ?_ ?_
     · intro w2 hw2 vs hvs hF N' hN';obtain rfl:=List.eq_nil_of_length_eq_zero hvs
       have f0:Box w2 x (({ W with down:=false }:Wd).cells p l2 most (.slice aa W.all.length ac) (.slice ga W.all.length gc) (.slice ma W.all.length mc) (.slice ea W.ends.length ec)) 56:=hF
       have hsc:Chg (fun k=>k=x) w2 (w2.setCell ⟨x,3,none⟩ (.slice aa e0 ac)):=(Chg.refl (fun k=>k=x) w2).setCell (p:=⟨x,3,none⟩) (.inl rfl) _
       have hbn:Box (w2.setCell ⟨x,3,none⟩ (.slice aa e0 ac)) x (({ W with down:=false }:Wd).cells p l2 most (.slice aa e0 ac) (.slice ga W.all.length gc) (.slice ma W.all.length mc) (.slice ea W.ends.length ec)) 56:=f0.set 3 _
       have HXR:Hid (QR (CutQ x p l2 most (.slice aa W.all.length ac) (.slice aa e0 ac) (.slice ga W.all.length gc) (.slice ga e0 gc) (.slice ma W.all.length mc) (.slice ma e0 mc) (.slice ea W.ends.length ec) { W with down:=false }) (fun k=>k=x) w2 (w2.setCell ⟨x,3,none⟩ (.slice aa e0 ac))):=⟨hsc,fun _=>⟨_,_,_,.inr rfl,.inl rfl,.inl rfl,hbn⟩⟩
       have HFX:Hid ((CutF x p l2 most (.slice aa W.all.length ac) (.slice aa e0 ac) (.slice ga W.all.length gc) (.slice ga e0 gc) (.slice ma W.all.length mc) (.slice ma e0 mc) (.slice ea W.ends.length ec) { W with down:=false }) [undef] (w2.setCell ⟨x,3,none⟩ (.slice aa e0 ac))):=hbn
       have cc:=f0.cell (j:=3) rfl
       have ff:=f0.free 3
       clear f0 hsc hbn hF hw2 hvs;simp only[Ch.depB,Ch.depC,Nat.reduceBEq,Nat.reduceAdd]
       go_simp;exact hN' _ HXR.out HFX.out
     simp only[List.nil_append,List.cons_append]
     iterate 2 ((with_reducible apply Ch.Walk.eq);(case hd=>rfl);(case hi=>rfl);case h=>(intro w2 hw2 N hN;simp only[Ch.depB];go_simp;(try go_bits);with_reducible exact hN _ (QR.refl _) (fun _ h=>h)))
     simp only[List.nil_append,List.cons_append]
     refine Ch.Walk.chainS 1 rfl rfl ?_ ?_
     · intro w2 hw2 vs hvs hF N' hN';have ev:=eq1 hvs
       generalize vs.getD 0 undef=u1 at ev;subst ev;have f0:Box w2 x (({ W with down:=false }:Wd).cells p l2 most (.slice aa e0 ac) (.slice ga W.all.length gc) (.slice ma W.all.length mc) (.slice ea W.ends.length ec)) 56:=hF
       have hsc:Chg (fun k=>k=x) w2 (w2.setCell ⟨x,4,none⟩ (.slice ga e0 gc)):=(Chg.refl (fun k=>k=x) w2).setCell (p:=⟨x,4,none⟩) (.inl rfl) _
       have hbn:Box (w2.setCell ⟨x,4,none⟩ (.slice ga e0 gc)) x (({ W with down:=false }:Wd).cells p l2 most (.slice aa e0 ac) (.slice ga e0 gc) (.slice ma W.all.length mc) (.slice ea W.ends.length ec)) 56:=f0.set 4 _
       have HXR:Hid (QR (CutQ x p l2 most (.slice aa W.all.length ac) (.slice aa e0 ac) (.slice ga W.all.length gc) (.slice ga e0 gc) (.slice ma W.all.length mc) (.slice ma e0 mc) (.slice ea W.ends.length ec) { W with down:=false }) (fun k=>k=x) w2 (w2.setCell ⟨x,4,none⟩ (.slice ga e0 gc))):=⟨hsc,fun _=>⟨_,_,_,.inr rfl,.inr rfl,.inl rfl,hbn⟩⟩
       have HFX:Hid ((CutF x p l2 most (.slice aa W.all.length ac) (.slice aa e0 ac) (.slice ga W.all.length gc) (.slice ga e0 gc) (.slice ma W.all.length mc) (.slice ma e0 mc) (.slice ea W.ends.length ec) { W with down:=false }) [u1,undef] (w2.setCell ⟨x,4,none⟩ (.slice ga e0 gc))):=hbn
       have cc:=f0.cell (j:=4) rfl
       have ff:=f0.free 4
       clear f0 hsc hbn hF hw2 hvs;simp only[Ch.depB,Ch.depC,Nat.reduceBEq,Nat.reduceAdd]
       go_simp;exact hN' _ HXR.out HFX.out
     simp only[List.nil_append,List.cons_append]
     iterate 2 ((with_reducible apply Ch.Walk.eq);(case hd=>rfl);(case hi=>rfl);case h=>(intro w2 hw2 N hN;simp only[Ch.depB];go_simp;(try go_bits);with_reducible exact hN _ (QR.refl _) (fun _ h=>h)))
     simp only[List.nil_append,List.cons_append]
     refine Ch.Walk.chainS 2 rfl rfl ?_ ?_
     · intro w2 hw2 vs hvs hF N' hN';have ev:=eq2 hvs
       generalize vs.getD 0 undef=u1 at ev;generalize vs.getD 1 undef=u2 at ev;subst ev;have f0:Box w2 x (({ W with down:=false }:Wd).cells p l2 most (.slice aa e0 ac) (.slice ga e0 gc) (.slice ma W.all.length mc) (.slice ea W.ends.length ec)) 56:=hF
       have hsc:Chg (fun k=>k=x) w2 (w2.setCell ⟨x,5,none⟩ (.slice ma e0 mc)):=(Chg.refl (fun k=>k=x) w2).setCell (p:=⟨x,5,none⟩) (.inl rfl) _
       have hbn:Box (w2.setCell ⟨x,5,none⟩ (.slice ma e0 mc)) x (({ W with down:=false }:Wd).cells p l2 most (.slice aa e0 ac) (.slice ga e0 gc) (.slice ma e0 mc) (.slice ea W.ends.length ec)) 56:=f0.set 5 _
       have HXR:Hid (QR (CutQ x p l2 most (.slice aa W.all.length ac) (.slice aa e0 ac) (.slice ga W.all.length gc) (.slice ga e0 gc) (.slice ma W.all.length mc) (.slice ma e0 mc) (.slice ea W.ends.length ec) { W with down:=false }) (fun k=>k=x) w2 (w2.setCell ⟨x,5,none⟩ (.slice ma e0 mc))):=⟨hsc,fun _=>⟨_,_,_,.inr rfl,.inr rfl,.inr rfl,hbn⟩⟩
       have HFX:Hid ((CutF x p l2 most (.slice aa W.all.length ac) (.slice aa e0 ac) (.slice ga W.all.length gc) (.slice ga e0 gc) (.slice ma W.all.length mc) (.slice ma e0 mc) (.slice ea W.ends.length ec) { W with down:=false }) [u1,u2,undef] (w2.setCell ⟨x,5,none⟩ (.slice ma e0 mc))):=hbn
       have cc:=f0.cell (j:=5) rfl
       have ff:=f0.free 5
       clear f0 hsc hbn hF hw2 hvs;simp only[Ch.depB,Ch.depC,Nat.reduceBEq,Nat.reduceAdd]
       go_simp;exact hN' _ HXR.out HFX.out
     simp only[List.nil_append,List.cons_append]
     intro w12 hw12;simp only[List.nil_append,List.cons_append,Ch.Fin,List.map_cons,List.map_nil,List.getD_cons_zero,List.getD_cons_succ]
     intro v6 _ v12 _ v18 _ hF;have hbx:Box w12 x (({ W with down:=false }:Wd).cells p l2 most (.slice aa e0 ac) (.slice ga e0 gc) (.slice ma e0 mc) (.slice ea W.ends.length ec)) 56:=hF
     have hch:Chg (fun k=>k=x) wc w12:=hw12.1
     have hcu:=HS11.out.cut HENL.out rfl HWK.out.gl HWK.out.ml hch hbx
     have HCU:=Lib.hid hcu
     clear hF hbx hch hw12 hcu hcpa hcpg hcpm HQ0 HS11;go_simp;obtain⟨B12,hs12⟩:=HCU.out
     have HS12:=Lib.hid hs12
     have hca:(({ W with down:=false }:Wd).cutAt e0).all.length=e0:=by
       show (W.all.take e0).length=e0
       rw[List.length_take];have:=HENL.out
       omega
     have hcg:(({ W with down:=false }:Wd).cutAt e0).gone.length=e0:=by
       show (W.gone.take e0).length=e0
       rw[List.length_take,HWK.out.gl];have:=HENL.out
       omega
     have hcm:(({ W with down:=false }:Wd).cutAt e0).may.length=e0:=by
       show (W.may.take e0).length=e0
       rw[List.length_take,HWK.out.ml];have:=HENL.out
       omega
     have hlo:LooksOk (({ W with down:=false }:Wd).cutAt e0) b0 (recsOf (allBts (ys++[z']))):=⟨HWO.out.look.up,HWO.out.look.lt,HWO.out.look.at',HWO.out.look.same⟩
     have he4:e0≤3780:=by have h1:=HWK.out.many;have h3:=HENL.out;have h4:=HM.out;omega
     have htl:(recsOf (allBts (ys++[z']))).length≤4000:=by
       have h1:=offUp_len hlo.up (fun r hr=>by have h2:=hlo.lt r hr;rw[hca] at h2;exact h2) (by have:=HWO.out.be;omega)
       omega
     have htold:g'.told (ys++[z'])=recsOf (allBts (ys++[z'])):=by
       unfold Lg.told recsFrom;rw[HWO.out.start];exact List.filter_eq_self.2 fun r hr=>decide_eq_true (offUp_mem hlo.up r hr)
     have hlook:=looks_any hs12 HUP.out.c.up.ok (by rw[HUP.out.c.dir];simp) (by have h1:=HN6.out;have h2:=HUP.out.c.segs;have h3:=HM.out;omega) htold htl HWO.out.start (by rw[hca];exact HWO.out.be) hlo (by rw[hca];omega) (by rw[hca];exact hcg) (by rw[hca];exact hcm)
     rw[hca] at hlook;have HLK:=Lib.hid hlook
     clear hs12 HCU hca hcg hcm hlo he4 htl htold hlook;go_wp2_with fail;refine HLK.out.mono ?_
     rintro e w13 ⟨rfl,B13,hs13⟩
     have HS13:=Lib.hid hs13
     have hal13:Chg Nil w13 (w13.alloc (.cells #[.int .i64 (e0:Nat)] 3)):=(Chg.refl Nil w13).alloc _
     have hb13:=hs13.wm.c.chg hal13 (fun h=>h)
     have d6:=hb13.cell (j:=6) rfl
     have f6:=hb13.free 6
     have d7:=hb13.cell (j:=7) rfl
     have f7:=hb13.free 7
     clear hs13 hb13 hal13 HLK HS12;go_upto_region 25 with fail;obtain⟨B14,hs14⟩:=HS13.out.endsAnew (e:=e0) rfl
     clear d6 f6 d7 f7;obtain⟨n13,hn13⟩:∃ n13,w13.heap.size=n13:=⟨_,rfl⟩
     rw[hn13] at hs14;rw[hn13];generalize ((w13.alloc (.cells #[.int .i64 (e0:Nat)] 3)).setCell ⟨x,6,none⟩ (.slice (some ⟨n13,0,none⟩) 1 1)).setCell ⟨x,7,none⟩ (.int .i64 (e0:Nat))=w14 at *
     have HS14:=Lib.hid hs14
     have c1:w14.cell? ⟨x,1,none⟩=some (.pointer (some ⟨l2,0,none⟩)):=hs14.wm.c.cell (j:=1) rfl
     clear hs14 hn13 HS13;go_wp2_with fail;refine (HSTA.out w14 HS14.out.lg.c).mono ?_
     rintro e w15 ⟨rfl,hc15⟩
     have HS15:=Lib.hid (HS14.out.nil hc15)
     have d8:=HS15.out.wm.c.cell (j:=8) rfl
     have f8:=HS15.out.wm.c.free 8
     clear hc15 c1 HS14;go_wp2_with fail;go_ret;obtain⟨B16,hs16⟩:=HS15.out.startAnew (b0:Nat) rfl
     have hlk:=LooksOk.again (W:=W.cutAt e0) HWO.out.look (by
       show (W.gone.take e0).length=(W.all.take e0).length
       rw[List.length_take,List.length_take,HWK.out.gl])
     have hce:(W.cutAt e0).all.length=e0:=by
       show (W.all.take e0).length=e0
       rw[List.length_take];have:=HENL.out
       omega
     rw[hce] at hlk;exact⟨rfl,_,l2,B16,S6,sv6,ss6,_,g',_,_,_,_,ys,z',b0,hs16,(by have h1:=HN6.out;have h2:=HUP.out.c.segs;omega),HUP.out,HWO.out.start,hlk.up,hlk.lt,hlk.at',hlk.same⟩
end Go.Proofs.YtdjmifaidgbbaaaGreatDoor
