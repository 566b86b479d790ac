/-
  A segment beside its disk; Sync, Remove. (Of the segments' seat: errD is the disk's errV there.)
-/
import Derived.Test.YtobegmcbfgnpnaaGreatDoorU15
import Derived.Test.YtobegmcbfgnpnaaGreatDoorU24
import Derived.Test.YtobegmcbfgnpnaaGreatDoorChecked
set_option linter.unusedVariables false
set_option linter.unusedSimpArgs false
set_option maxHeartbeats 0
set_option maxRecDepth 200000
namespace Go.Proofs.YtobegmcbfgnpnaaGreatDoor
open Go.RowKit Go.Maps
structure SgS (B:Nat→Prop) (w:World) (p s:Nat) (S:Nat→Prop) (v:Value) (d:Dk) (g:Sg):Prop where
 lo:∀ k,B k→k<w.heap.size
 a:DiskAt w p S d
 m:Sm w s p v g
 ap:∀ k,SHas s v k→¬S k
 sl:∀ k,S k→¬B k∧k<w.heap.size
 ml:∀ k,SHas s v k→¬B k
theorem SgS.disk {B:Nat→Prop}{w w':World}{p s:Nat}{S:Nat→Prop}{v:Value}{d d':Dk}{g:Sg}(h:SgS B w p s S v d g)(ha:DiskAt w' p (Gr S w w') d')(hc:Chg S w w'):SgS B w' p s (Gr S w w') v d' g:=by
 have hz:=hc.size
 refine⟨fun k hk=>Nat.lt_of_lt_of_le (h.lo k hk) hz,ha,h.m.chg hc (fun k hk=>h.ap k hk),?_,?_,h.ml⟩
 ·rintro k hk (hs | hs)
  ·exact h.ap k hk hs
  ·have:=h.m.lt k hk;omega
 ·rintro k (hs | hs)
  ·exact⟨(h.sl k hs).1,by have:=(h.sl k hs).2;omega⟩
  ·exact⟨fun hb=>by have:=h.lo k hb;have:=hs.1;omega,hs.2⟩
theorem SgS.seg {B:Nat→Prop}{w w':World}{p s:Nat}{S:Nat→Prop}{v v':Value}{d:Dk}{g g':Sg}(h:SgS B w p s S v d g)(hm:Sm w' s p v' g')(hc:Chg (SHas s v) w w')(hn:∀ k,SHas s v' k→SHas s v k∨w.heap.size≤k):SgS B w' p s S v' d g':=by
 have hz:=hc.size
 refine⟨fun k hk=>Nat.lt_of_lt_of_le (h.lo k hk) hz,h.a.chg hc (fun k hk hs=>h.ap k hs hk),hm,fun k hk hs=>?_,fun k hs=>⟨(h.sl k hs).1,by have:=(h.sl k hs).2;omega⟩,fun k hk=>?_⟩
 ·rcases hn k hk with h9 | h9
  ·exact h.ap k h9 hs
  ·have:=(h.sl k hs).2;omega
 ·rcases hn k hk with h9 | h9
  ·exact h.ml k h9
  ·exact fun hb=>by have:=h.lo k hb;omega
theorem SgS.nil {B:Nat→Prop}{w w':World}{p s:Nat}{S:Nat→Prop}{v:Value}{d:Dk}{g:Sg}(h:SgS B w p s S v d g)(hc:Chg Nil w w'):SgS B w' p s S v d g:=by
 have hz:=hc.size
 exact⟨fun k hk=>Nat.lt_of_lt_of_le (h.lo k hk) hz,h.a.chg hc (fun _ _ h=>h),h.m.chg hc (fun _ _ h=>h),h.ap,fun k hs=>⟨(h.sl k hs).1,by have:=(h.sl k hs).2;omega⟩,h.ml⟩
def Off (B:Nat→Prop):Nat→Prop:=fun k=>¬B k
def SopF (B:Nat→Prop) (p s:Nat) (S:Nat→Prop) (v:Value) (d:Dk) (g:Sg) (r:Nat×Dk):List Value→World→Prop
 | [],w=>SgS B w p s S v d g
 | _::_,w=>∃ S',SgS B w p s S' v r.2 g
theorem ssync_any {B:Nat→Prop} {w:World} {p s:Nat} {S:Nat→Prop} {v:Value} {d:Dk} {g:Sg} (h:SgS B w p s S v d g) (hg:g.name.length≤1000) :
  Calls Tryz.prog 122 #[.pointer (some ⟨s,0,none⟩)] w fun e w'=>e = .returned (errD (d.sync g.name).1)∧(∃ S',SgS B w' p s S' v (d.sync g.name).2 g)∧Chg (Off B) w w':=by
 have HS:=Lib.hid h
 have HG:=Lib.hid hg
 have c0:=h.m.c.cell (j:=0) rfl
 have c1:=h.m.c.cell (j:=1) rfl
 have HOP:=Lib.hid (fun (w':World) (h:SgS B w' p s S v d g)=>sync_any h.a ⟨g.name.toArray⟩ (by show g.name.toArray.size≤4611686018427387904;simp;have:=HG.out;omega))
 obtain⟨R,hR⟩:∃ R,d.sync g.name=R:=⟨_,rfl⟩
 have HR:=Lib.hid hR
 clear hR h hg;rw[HR.out];go_enter Tryz.func122,Tryz.ntmps122
 go_upto_region 1 with fail;refine Ch.wp_region_chain _ (Chg (fun k=>¬B k∧¬SHas s v k)) [8] (SopF B p s S v d g R) (by kernel_rfl) (fun _=>Chg.refl _ _) (fun _ _ _ h k=>h.trans k (fun _ h=>.inl h)) [[],[0],[1],[2],[],[4],[5],[6],[3,7],[8]] rfl (by kernel_rfl) (by kernel_rfl) (Chg.refl _ _).drew ?_ ?_
 ·exact HS.out.nil (Chg.refl Nil _).drew
 iterate 3 ((with_reducible apply Ch.Walk.eq);(case hd=>rfl);(case hi=>rfl);case h=>(intro w2 hw2 N hN;simp only[Ch.depB];go_simp;(try go_bits);with_reducible exact hN _ (Chg.refl _ _) (fun _ h=>h)))
 ((with_reducible apply Ch.Walk.eq);(case hd=>rfl);(case hi=>rfl);case h=>(intro w2 hw2 N hN;(have hq:=hw2.cell c0 (fun h=>h.2 (.inl rfl)));simp only[Ch.depB];go_simp;(try go_bits);with_reducible exact hN _ (Chg.refl _ _) (fun _ h=>h)))
 iterate 3 ((with_reducible apply Ch.Walk.eq);(case hd=>rfl);(case hi=>rfl);case h=>(intro w2 hw2 N hN;simp only[Ch.depB];go_simp;(try go_bits);with_reducible exact hN _ (Chg.refl _ _) (fun _ h=>h)))
 ((with_reducible apply Ch.Walk.eq);(case hd=>rfl);(case hi=>rfl);case h=>(intro w2 hw2 N hN;(have hq:=hw2.cell c1 (fun h=>h.2 (.inl rfl)));simp only[Ch.depB];go_simp;(try go_bits);with_reducible exact hN _ (Chg.refl _ _) (fun _ h=>h)))
 refine Ch.Walk.chainE 0 (c:=errD R.1) rfl rfl ?_ ?_
 ·intro w6 hw6 vs hvs hF N hN;obtain rfl:=List.eq_nil_of_length_eq_zero hvs
  have F3:SgS B w6 p s S v d g:=hF
  have HO6:=Lib.hid (HOP.out w6 F3)
  have HF3:=Lib.hid F3
  clear F3 hF;simp only[Ch.depB,Ch.depC,Nat.reduceBEq,Nat.reduceAdd]
  go_simp;refine HO6.out.mono ?_
  rintro e w7 ⟨rfl,h2,h3⟩
  have h2:DiskAt w7 p (Gr S w6 w7) (d.sync g.name).2:=h2
  have he:errD (d.sync (ByteArray.mk g.name.toArray).data.toList).1=errD R.1:=by show errD (d.sync g.name).1=_;rw[HR.out]
  rw[HR.out] at h2;rw[he];exact⟨_,rfl,hN _ (h3.weak (fun k hk=>.inl ⟨(HF3.out.sl k hk).1,fun hs=>HF3.out.ap k hs hk⟩)) ⟨_,HF3.out.disk h2 h3⟩⟩
 ((with_reducible apply Ch.Walk.eq);(case hd=>rfl);(case hi=>rfl);case h=>(intro w2 hw2 N hN;simp only[Ch.depB];go_simp;(try go_bits);with_reducible exact hN _ (Chg.refl _ _) (fun _ h=>h)))
 intro w6 hw6;simp only[List.nil_append,List.cons_append,Ch.Fin,List.map_cons,List.map_nil,List.getD_cons_zero,List.getD_cons_succ]
 intro hF;have HF:=Lib.hid hF
 have HW6:=Lib.hid hw6
 clear hF hw6 c0 c1;go_simp;go_wp2_with fail;go_ret;obtain⟨S',h9⟩:=HF.out
 exact⟨rfl,⟨S',h9⟩,HW6.out.weak (fun k hk=>.inl hk.1)⟩
theorem check_any (base en:Int) (a:Option Addr) (rs:List Rec) (cap:Nat) (w:World) (hb:-9223372036854775808≤base∧base≤9223372036854775807) (he:-9223372036854775808≤en∧en≤9223372036854775807) (hl:rs.length≤maxLen) (hok:∀ r∈rs,Rec.Ok r) (hc:RecsAt w a rs) :
  Calls Tryz.prog 136 #[.agg #[.int .i64 base,.int .i64 en,.slice a rs.length cap]] w fun e w'=>e = .returned (errV 39 (checkB base en rs))∧Chg Nil w w':=by
 unfold maxLen at hl;by_cases h0:base<0
 ·have HR:Hid (checkB base en rs=2):=by unfold Hid checkB;rw[if_pos (.inl h0)]
  go_enter Tryz.func136,Tryz.ntmps136
  go_wp2
  go_ret;exact⟨by rw[HR.out];rfl,(Chg.refl _ _).alloc _⟩
 ·by_cases h1:1099511627776<en
  ·have HR:Hid (checkB base en rs=2):=by unfold Hid checkB;rw[if_pos (.inr h1)]
   go_enter Tryz.func136,Tryz.ntmps136
   go_wp2
   go_ret;exact⟨by rw[HR.out];rfl,(Chg.refl _ _).alloc _⟩
  ·by_cases h2:en≤base
   ·have HR:Hid (checkB base en rs=1):=by unfold Hid checkB;rw[if_neg (by omega),if_pos h2]
    go_enter Tryz.func136,Tryz.ntmps136
    go_wp2
    go_ret;exact⟨by rw[HR.out];rfl,(Chg.refl _ _).alloc _⟩
   ·by_cases h3:50<rs.length
    ·have HR:Hid (checkB base en rs=4):=by unfold Hid checkB;rw[if_neg (by omega),if_neg (by omega),if_pos (.inl h3)]
     go_enter Tryz.func136,Tryz.ntmps136
     go_wp2
     go_ret;exact⟨by rw[HR.out];rfl,(Chg.refl _ _).alloc _⟩
    ·by_cases h4:50<en-base
     ·have HR:Hid (checkB base en rs=4):=by unfold Hid checkB;rw[if_neg (by omega),if_neg (by omega),if_pos (.inr h4)]
      go_enter Tryz.func136,Tryz.ntmps136
      go_wp2
      go_ret;exact⟨by rw[HR.out];rfl,(Chg.refl _ _).alloc _⟩
     ·go_enter Tryz.func136,Tryz.ntmps136
      go_wp2
      have hc0:BoxAt (w.alloc (.cells #[.int .i64 base,.int .i64 en,.slice a rs.length cap] 142)) w.heap.size [.int .i64 base,.int .i64 en,.slice a rs.length cap]:=BoxAt.new _ _ _
      have hch0:Chg Nil w (w.alloc (.cells #[.int .i64 base,.int .i64 en,.slice a rs.length cap] 142)):=(Chg.refl _ _).alloc _
      have hsz:w.heap.size<(w.alloc (.cells #[.int .i64 base,.int .i64 en,.slice a rs.length cap] 142)).heap.size:=by simp
      generalize hbase:w.alloc (.cells #[.int .i64 base,.int .i64 en,.slice a rs.length cap] 142)=w1 at *;clear hbase
      go_loopw [3,40] (fun v i wr=>∃ (k:Nat) (last:Int),k≤rs.length∧i = .int .i64 k∧v = .int .i64 last∧Hid (checkRecs en last (rs.drop k)=checkB base en rs)∧Chg Nil w1 wr∧-9223372036854775808≤last∧last≤9223372036854775807) (fun _ i _=>rs.length-(intOf i).toNat)
      case atStart=>exact⟨0,base-1,Nat.zero_le _,rfl,rfl,by unfold checkB;rw[if_neg (by omega),if_neg (by omega),if_neg (by omega)];rfl,Chg.refl _ _,by omega,by omega⟩
      case round=>
       obtain⟨k,last,hk,rfl,rfl,HC,hch,hla,hlb⟩:=hrel
       by_cases hlt:k<rs.length
       ·obtain⟨b,off,rfl,hcell⟩:=RecsAt.chg hch (RecsAt.chg hch0 hc (fun _ _ h=>h)) (fun _ _ h=>h) k hlt
        have hen:wr.cell? ⟨w.heap.size,1,none⟩=some (.int .i64 en):=hch.cell (hc0 1 _ rfl) (fun h=>h)
        have g0:wr.cell? ⟨b,off+k*6,none⟩=_:=hcell 0 _ rfl
        have g1:=hcell 1 _ rfl
        have g2:=hcell 2 _ rfl
        have g3:=hcell 3 _ rfl
        have g4:=hcell 4 _ rfl
        have g5:=hcell 5 _ rfl
        have hlt1:w.heap.size<wr.heap.size:=Nat.lt_of_lt_of_le hsz hch.size
        have HD:Hid (checkRecs en last (rs.drop k)=if badArg last en rs[k]=true then 1 else if badLen rs[k]=true then 4 else if badTime rs[k]=true then 2 else checkRecs en rs[k].off (rs.drop (k+1))):=by
         unfold Hid;rw[←List.getElem_cons_drop hlt]
         rfl
        have hrk:=hok _ (List.getElem_mem hlt)
        clear hcell hc0 hc;generalize rs[k]=r at *;obtain⟨ro,rt,rk,rkey,rg,rval⟩:=r
        simp only at g0 g1 g2 g3 g4 g5
        have HRK:=Lib.hid hrk
        clear hrk;go_upto_region 11 with fail;have hbx:BoxAt (wr.alloc (.cells (Rec.cells ⟨ro,rt,rk,rkey,rg,rval⟩).toArray 61)) wr.heap.size (Rec.cells ⟨ro,rt,rk,rkey,rg,rval⟩):=BoxAt.new _ _ _
        have hchx:Chg Nil w1 (wr.alloc (.cells (Rec.cells ⟨ro,rt,rk,rkey,rg,rval⟩).toArray 61)):=hch.alloc _
        go_cut [5,40,44] from 41 to 100 (fun s5 s40 s44 wx=>∃ g:Nat,s5 = .pointer (some ⟨g,0,none⟩)∧s40 = .int .i64 k∧s44 = .bool (badArg last en ⟨ro,rt,rk,rkey,rg,rval⟩)∧BoxAt wx g (Rec.cells ⟨ro,rt,rk,rkey,rg,rval⟩)∧Chg Nil w1 wx)
        case first=>
         clear HC HD g0 g1 g2 g3 g4 g5 h3 hb he;by_cases ha1:ro≤last
         ·go_wp2_with fail;go_meet
          case rel=>exact⟨_,rfl,rfl,by simp[badArg,ha1],hbx,hchx⟩
         ·by_cases ha2:en≤ro
          ·go_wp2_with fail;go_meet
           case rel=>exact⟨_,rfl,rfl,by simp[badArg,ha2],hbx,hchx⟩
          ·have hA1:decide (ro≤last)=false:=by simp;omega
           have hA2:decide (en≤ro)=false:=by simp;omega
           have hK:(rk=false∧rkey.toList.isEmpty=false)∨rk=true∨(rk=false∧rkey.toList.isEmpty=true):=by
            cases rk<;>cases rkey.toList.isEmpty<;>simp
           rcases hK with ⟨rfl,he1⟩ | hK
           ·go_wp2_with fail;go_meet
            case rel=>exact⟨_,rfl,rfl,by simp[badArg,hA1,hA2,he1],hbx,hchx⟩
           ·have hG:(rg=true∧rval.toList.isEmpty=false)∨rg=false∨(rg=true∧rval.toList.isEmpty=true):=by
             cases rg<;>cases rval.toList.isEmpty<;>simp
            rcases hG with ⟨rfl,he2⟩ | rfl | ⟨rfl,he2⟩
            ·rcases hK with rfl | ⟨rfl,he1⟩
             ·go_wp2_with fail;go_meet
              case rel=>exact⟨_,rfl,rfl,by simp[badArg,hA1,hA2,he2],hbx,hchx⟩
             ·go_wp2_with fail;go_meet
              case rel=>exact⟨_,rfl,rfl,by simp[badArg,hA1,hA2,he1,he2],hbx,hchx⟩
            ·rcases hK with rfl | ⟨rfl,he1⟩
             ·go_wp2_with fail;go_meet
              case rel=>exact⟨_,rfl,rfl,by simp[badArg,hA1,hA2],hbx,hchx⟩
             ·go_wp2_with fail;go_meet
              case rel=>exact⟨_,rfl,rfl,by simp[badArg,hA1,hA2,he1],hbx,hchx⟩
            ·rcases hK with rfl | ⟨rfl,he1⟩
             ·go_wp2_with fail;go_meet
              case rel=>exact⟨_,rfl,rfl,by simp[badArg,hA1,hA2,he2],hbx,hchx⟩
             ·go_wp2_with fail;go_meet
              case rel=>exact⟨_,rfl,rfl,by simp[badArg,hA1,hA2,he1,he2],hbx,hchx⟩
        case rest=>
         clear hchx hbx hch;obtain⟨g,rfl,rfl,rfl,hbx,hch⟩:=hcut
         have e0:=hbx 0 _ rfl
         have e1:=hbx 1 _ rfl
         have e3:=hbx 3 _ rfl
         have e5:=hbx 5 _ rfl
         clear g0 g1 g2 g3 g4 g5 hen hlt1 h3 hb he;cases hA:badArg last en ⟨ro,rt,rk,rkey,rg,rval⟩
         case true=>
          have HR:Hid (checkB base en rs=1):=by rw[←HC.out,HD.out,if_pos hA];rfl
          clear hA;go_wp2_with fail;go_ret;exact⟨by rw[HR.out];rfl,hch0.trans hch (fun _ h=>h.elim)⟩
         case false=>
          have HA:=Lib.hid hA
          clear hA;have hk1:rkey.size≤maxLen:=HRK.out.key
          have hk2:rval.size≤maxLen:=HRK.out.value
          unfold maxLen at hk1 hk2;go_upto_region 13 with fail;go_cut [5,40,76] from 41 to 100 (fun s5 s40 s76 wx=>s5 = .pointer (some ⟨g,0,none⟩)∧s40 = .int .i64 k∧s76 = .bool (badLen ⟨ro,rt,rk,rkey,rg,rval⟩)∧wx=wc)
          case first=>
           by_cases hl1:60<rkey.size
           ·have HL:Hid (badLen ⟨ro,rt,rk,rkey,rg,rval⟩=true):=by simp[badLen,Hid,hl1]
            go_wp2_with fail;go_meet
            case rel=>exact⟨rfl,rfl,by rw[HL.out],rfl⟩
           ·by_cases hl2:500<rval.size
            ·have HL:Hid (badLen ⟨ro,rt,rk,rkey,rg,rval⟩=true):=by simp[badLen,Hid,hl2]
             go_wp2_with fail;go_meet
             case rel=>exact⟨rfl,rfl,by rw[HL.out];congr 1;simp;omega,rfl⟩
            ·have HL:Hid (badLen ⟨ro,rt,rk,rkey,rg,rval⟩=false):=by simp only[badLen,Hid,Bool.or_eq_false_iff,decide_eq_false_iff_not];exact⟨hl1,hl2⟩
             go_wp2_with fail;go_meet
             case rel=>exact⟨rfl,rfl,by rw[HL.out];congr 1;simp;omega,rfl⟩
          case rest=>
           obtain⟨rfl,rfl,rfl,rfl⟩:=hcut
           cases hB:badLen ⟨ro,rt,rk,rkey,rg,rval⟩
           case true=>
            have HR:Hid (checkB base en rs=4):=by rw[←HC.out,HD.out,if_neg (by rw[HA.out];simp),if_pos hB];rfl
            clear hB;go_wp2_with fail;go_ret;exact⟨by rw[HR.out];rfl,hch0.trans hch (fun _ h=>h.elim)⟩
           case false=>
            have HB:=Lib.hid hB
            clear hB;by_cases ht1:rt<0
            ·have HR:Hid (checkB base en rs=2):=by rw[←HC.out,HD.out,if_neg (by rw[HA.out];simp),if_neg (by rw[HB.out];simp),if_pos (by simp[badTime,ht1])];rfl
             go_wp2_with fail;go_ret;exact⟨by rw[HR.out];rfl,hch0.trans hch (fun _ h=>h.elim)⟩
            ·by_cases ht2:1099511627776<rt
             ·have HR:Hid (checkB base en rs=2):=by rw[←HC.out,HD.out,if_neg (by rw[HA.out];simp),if_neg (by rw[HB.out];simp),if_pos (by simp[badTime,ht2])];rfl
              go_wp2_with fail;go_ret;exact⟨by rw[HR.out];rfl,hch0.trans hch (fun _ h=>h.elim)⟩
             ·have HN:Hid (checkRecs en ro (rs.drop (k+1))=checkB base en rs):=by
               rw[←HC.out,HD.out,if_neg (by rw[HA.out];simp),if_neg (by rw[HB.out];simp),if_neg (by simp only[badTime,Bool.or_eq_true,decide_eq_true_eq];omega)];rfl
              have hro:=HRK.out.off
              simp only at hro
              go_wp2_with fail;go_roundw
              case rel=>exact⟨k+1,ro,by omega,by go_num,rfl,HN.out,hch,hro.1,hro.2⟩
              case measure=>simp[intOf];omega
       ·have HZ:Hid (checkB base en rs=0):=by
         rw[←HC.out,List.drop_of_length_le (by omega)];rfl
        go_wp2_with fail;go_ret;exact⟨by rw[HZ.out];rfl,hch0.trans hch (fun _ h=>h.elim)⟩
end Go.Proofs.YtobegmcbfgnpnaaGreatDoor
