/-
  A crash.
-/
import Derived.Test.YtobegmcbfgnpnaaGreatDoorU23
set_option linter.unusedVariables false
set_option linter.unusedSimpArgs false
set_option maxHeartbeats 0
set_option maxRecDepth 200000
namespace Go.Proofs.YtobegmcbfgnpnaaGreatDoor
open Go.RowKit Go.Maps Go.Sort
theorem SlcRow.cut {w:World}{e:TypeId}{l:List UInt8}{a:Option Addr}{c:Nat}(h:SlcRow w e 1 (.slice a l.length c) l.length (l.map bval)) {k:Nat}(hk:k≤l.length):SlcRow w e 1 (.slice a k k) (l.take k).length ((l.take k).map bval):=by
 have hlk:(l.take k).length=k:=by rw[List.length_take];omega
 rw[hlk];refine⟨by simp;omega,?_⟩
 rcases h.2 with ⟨hv,hn⟩ | ⟨a',hv,hn⟩ | ⟨g,cap,cur,hv,hg,hnc,hcm,hcs,htake⟩
 ·obtain rfl:k=0:=by omega
  simp only[Value.slice.injEq] at hv
  rw[hv.1];exact .inl ⟨rfl,rfl⟩
 ·obtain rfl:k=0:=by omega
  simp only[Value.slice.injEq] at hv
  rw[hv.1];exact .inr (.inl ⟨a',rfl,rfl⟩)
 ·cases hv
  refine .inr (.inr ⟨g,k,cur,rfl,hg,Nat.le_refl _,by omega,by omega,?_⟩)
  rw[List.map_take,←htake,List.take_take,Nat.min_eq_left (by omega),Nat.mul_one]
theorem size_any {w:World}{p:Nat}{S:Nat→Prop}{d:Dk}(h:DiskAt w p S d) (s:ByteArray)(hs:s.size≤4611686018427387904) :
  Calls Tryz.prog 52 #[.pointer (some ⟨p,0,none⟩),.string s] w fun e w'=>e = .returned (.int .i64 (d.size s.data.toList))∧w=w':=by
 obtain⟨mb,fs,sv,con,hd,hfs,hS,hok⟩:=h
 have hsz:d.size s.data.toList=match fs.lookup s.data.toList with | some b=>((con b).bytes.length:Int) | none=>-1:=by
  unfold Dk.size Dk.find;rw[hfs,find_map];cases fs.lookup s.data.toList<;>rfl
 have c0:=hd.c.cell (j:=0) rfl
 have hlk:=hd.m.look (s:=s) (by unfold maxLen;omega)
 rw[hsz];clear hsz;cases ho:fs.lookup s.data.toList with
 | none=>
  rw[ho] at hlk;simp only[ptrOf,Option.map_none] at hlk
  clear hd hfs hS hok ho;go_enter Tryz.func52,Tryz.ntmps52
  go_wp2_with fail;go_ret;exact⟨rfl,rfl⟩
 | some b=>
  rw[ho] at hlk;simp only[ptrOf,Option.map_some] at hlk
  have hmem:=lookup_some ho
  have hrow:SlcRow w 5 1 (sv b) (con b).bytes.length ((con b).bytes.map bval):=hd.o _ hmem
  have hbx:Box w b [sv b,.int .i64 ((con b).safe:Nat)] 110:=hd.f _ hmem
  obtain⟨a,c,hsv,_,_⟩:=hrow.form
  have y0:=hbx.cell (j:=0) rfl
  rw[hsv] at y0;clear hd hfs hS hok ho hmem hrow hbx hsv;go_enter Tryz.func52,Tryz.ntmps52
  go_wp2_with fail;go_ret;exact⟨rfl,rfl⟩
theorem Dm.drop {w w2:World}{p mb:Nat}{fs:List (Nm×Nat)}{sv:Nat→Value}{con:Nat→Fl}{room:Nat}{left:Int}(h:Dm w p mb fs sv con room left) {x:Nm}(hm:MapAt w2 mb (fs.filter fun p=>decide (p.1≠x)))(hc:Chg (fun k=>k=mb) w w2) :
  Dm w2 p mb (fs.filter fun p=>decide (p.1≠x)) sv con room left:=by
 obtain⟨h1,h2,h3⟩:=h.p_ne
 have hin:∀ q∈(fs.filter fun p=>decide (p.1≠x)),q∈fs:=fun q hq=>(List.mem_filter.1 hq).1
 exact⟨h.c.chg hc (fun e=>h1 e.symm),hm,fun q hq=>(h.f q (hin q hq)).chg hc (h2 q (hin q hq)).2.2.1,fun q hq=>(h.o q (hin q hq)).chg hc (fun k hk e=>(h2 q (hin q hq)).2.2.2 (by rw[hk,e])),
  h.nd.sublist (List.Sublist.map _ List.filter_sublist),fun q hq r hr=>h.ap q (hin q hq) r (hin r hr)⟩
theorem filter_mapped (con:Nat→Fl) (x:Nm) (fs:List (Nm×Nat)):((fs.map fun q=>(q.1,con q.2)).filter fun p=>decide (p.1≠x))=(fs.filter fun p=>decide (p.1≠x)).map (fun q=>(q.1,con q.2)):=by
 rw[List.filter_map];rfl
theorem Dk.Ok.del {d:Dk}(h:d.Ok) (x:Nm):(d.del x).Ok:=by
 refine⟨filter_fst_nodup h.nodup x,fun p hp=>h.safe p (List.mem_filter.1 hp).1,Nat.le_trans (used_filter d x) h.fits,h.room,Nat.le_trans (List.length_filter_le _ _) h.few,h.left,fun y hy=>?_⟩
 obtain⟨q,hq,rfl⟩:=List.mem_map.1 hy
 exact h.short _ (List.mem_map.2 ⟨q,(List.mem_filter.1 hq).1,rfl⟩)
theorem remove_any {w:World} {p:Nat} {S:Nat→Prop} {d:Dk} (h:DiskAt w p S d) (s:ByteArray) (hs:s.size≤4611686018427387904) :
  Calls Tryz.prog 64 #[.pointer (some ⟨p,0,none⟩),.string s] w fun e w'=>e = .returned (errD (d.remove s.data.toList).1)∧DiskAt w' p (Gr S w w') (d.remove s.data.toList).2∧Chg S w w':=by
 obtain⟨mb,fs,sv,con,hd,hfs,hS,hok⟩:=h
 have HF:=Lib.hid (file_any hd hok.left s (by unfold maxLen;omega))
 have hfind:d.find s.data.toList=(fs.lookup s.data.toList).map con:=by unfold Dk.find;rw[hfs];exact find_map con _ fs
 have HFIND:=Lib.hid hfind
 have HFS:=Lib.hid hfs
 have HS:=Lib.hid hS
 have HOK:=Lib.hid hok
 have HSS:=Lib.hid hs
 obtain⟨R,hR⟩:∃ R,d.remove s.data.toList=R:=⟨_,rfl⟩
 have HR:=Lib.hid hR
 rw[hR];clear hR hd hfind hfs hS hok hs;go_enter Tryz.func64,Tryz.ntmps64
 go_wp2_with (go_at_call 56;refine HF.out.mono ?_)
 rintro e w1 ⟨hfr,hd1,hc1⟩
 have HC1:=Lib.hid hc1
 have HD1:=Lib.hid hd1
 clear hd1 hc1 HF;rcases hfr with ⟨hx,rfl⟩ | ⟨hx,ho,rfl⟩ | ⟨hx,b,ho,rfl⟩
 ·have HX:=Lib.hid hx
  clear hx;go_wp2_with fail;go_ret;have hd1:=HD1.out
  rw[stepL_of HX.out] at hd1
  exact done_mk (n:=14) (d':=d) HS.out rfl hd1 HFS.out (chg_p HC1.out) (fun k hk=>.inl hk) HOK.out (HR.out.symm.trans (at_not HX.out))
 ·have HX:=Lib.hid hx
  have HO:=Lib.hid ho
  clear hx ho;go_wp2_with fail;go_ret;exact done_mk (n:=7) (d':=d.step) HS.out rfl HD1.out HFS.out (chg_p HC1.out) (fun k hk=>.inl hk) HOK.out.step (HR.out.symm.trans (at_none (by rw[HFIND.out,HO.out];rfl) HX.out))
 ·have HX:=Lib.hid hx
  have HO:=Lib.hid ho
  have HFD:Hid (d.find s.data.toList=some (con b)):=by unfold Hid;rw[HFIND.out,HO.out];rfl
  have c0:=HD1.out.c.cell (j:=0) rfl
  obtain⟨w8,hrun,hm8,hc8⟩:=HD1.out.m.drop (s:=s) (by have:=HSS.out;unfold maxLen;omega) 0
  have HM8:=Lib.hid hm8
  have HC8:=Lib.hid hc8
  clear hx ho hm8 hc8;go_wp2_with fail;go_ret;have hch:Chg (Has p mb fs sv) w w8:=(chg_p HC1.out).trans (HC8.out.weak (fun k hk=>.inl (.inr (.inl hk)))) (fun _ h=>.inl h)
  refine done_mk (n:=0) (d':=d.step.del s.data.toList) HS.out rfl (HD1.out.drop HM8.out HC8.out) ?_ hch (fun k hk=>.inl ?_) (HOK.out.step.del _) (HR.out.symm.trans (at_some HFD.out HX.out))
  ·show (d.fs.filter fun p=>decide (p.1≠s.data.toList))=_
   rw[HFS.out];exact filter_mapped con _ fs
  ·rcases hk with hk | hk | ⟨q,hq,hk⟩
   ·exact .inl hk
   ·exact .inr (.inl hk)
   ·exact .inr (.inr ⟨q,(List.mem_filter.1 hq).1,hk⟩)
theorem cut_any {w:World} {p:Nat} {S:Nat→Prop} {d:Dk} (h:DiskAt w p S d) (s:ByteArray) (hs:s.size≤4611686018427387904) (n:Int) :
  Calls Tryz.prog 188 #[.pointer (some ⟨p,0,none⟩),.string s,.int .i64 n] w fun e w'=>e = .returned (errD (d.cut s.data.toList n).1)∧DiskAt w' p (Gr S w w') (d.cut s.data.toList n).2∧Chg S w w':=by
 obtain⟨mb,fs,sv,con,hd,hfs,hS,hok⟩:=h
 have HF:=Lib.hid (file_any hd hok.left s (by unfold maxLen;omega))
 have hfind:d.find s.data.toList=(fs.lookup s.data.toList).map con:=by unfold Dk.find;rw[hfs];exact find_map con _ fs
 have HFIND:=Lib.hid hfind
 have HFS:=Lib.hid hfs
 have HS:=Lib.hid hS
 have HOK:=Lib.hid hok
 obtain⟨R,hR⟩:∃ R,d.cut s.data.toList n=R:=⟨_,rfl⟩
 have HR:=Lib.hid hR
 rw[hR];clear hR hd hfind hfs hS hok hs;go_enter Tryz.func188,Tryz.ntmps188
 go_wp2_with (go_at_call 56;refine HF.out.mono ?_)
 rintro e w1 ⟨hfr,hd1,hc1⟩
 have HC1:=Lib.hid hc1
 have HD1:=Lib.hid hd1
 clear hd1 hc1 HF;rcases hfr with ⟨hx,rfl⟩ | ⟨hx,ho,rfl⟩ | ⟨hx,b,ho,rfl⟩
 ·have HX:=Lib.hid hx
  clear hx;go_wp2_with fail;go_ret;have hd1:=HD1.out
  rw[stepL_of HX.out] at hd1
  exact done_mk (n:=14) (d':=d) HS.out rfl hd1 HFS.out (chg_p HC1.out) (fun k hk=>.inl hk) HOK.out (HR.out.symm.trans (at_not HX.out))
 ·have HX:=Lib.hid hx
  have HO:=Lib.hid ho
  clear hx ho;go_wp2_with fail;go_ret;exact done_mk (n:=7) (d':=d.step) HS.out rfl HD1.out HFS.out (chg_p HC1.out) (fun k hk=>.inl hk) HOK.out.step (HR.out.symm.trans (at_none (by rw[HFIND.out,HO.out];rfl) HX.out))
 ·have HX:=Lib.hid hx
  have HO:=Lib.hid ho
  have hmem:=lookup_some ho
  have hrow:SlcRow w1 5 1 (sv b) (con b).bytes.length ((con b).bytes.map bval):=HD1.out.o _ hmem
  have hbx:Box w1 b [sv b,.int .i64 ((con b).safe:Nat)] 110:=HD1.out.f _ hmem
  have HFD:Hid (d.find s.data.toList=some (con b)):=by unfold Hid;rw[HFIND.out,HO.out];rfl
  have HMEM:=Lib.hid hmem
  have HROW:=Lib.hid hrow
  have HBX:=Lib.hid hbx
  obtain⟨a,c,hsv,hle,hcm⟩:=hrow.form
  have y0:=hbx.cell (j:=0) rfl
  rw[hsv] at y0;have y1:=hbx.cell (j:=1) rfl
  have z0:=hbx.free 0
  have z1:=hbx.free 1
  have HSV:=Lib.hid hsv
  clear hx ho hmem hrow hbx hsv;by_cases hbad:n<0∨((con b).bytes.length:Int)<n
  ·have HBAD:=Lib.hid hbad
   have hfin:∀ w2,Chg Nil w1 w2→Ending.returned (Value.iface 39 (.int .i64 2)) = .returned (errD R.1)∧DiskAt w2 p (Gr S w w2) R.2∧Chg S w w2:=fun w2 hw=>by
    refine done_mk (n:=2) (d':=d.step) HS.out rfl (HD1.out.chg hw (fun _ _ h=>h)) HFS.out (chg_p (HC1.out.trans hw (fun _ h=>h.elim))) (fun k hk=>.inl hk) HOK.out.step (HR.out.symm.trans ((at_some HFD.out HX.out).trans ?_))
    simp only[if_pos HBAD.out,id]
   have HFIN:=Lib.hid hfin
   clear hfin;rcases hbad with hn0 | hn1
   ·go_wp2_with fail;go_ret;exact HFIN.out _ (Chg.refl _ _)
   ·by_cases hn0:n<0
    ·go_wp2_with fail;go_ret;exact HFIN.out _ (Chg.refl _ _)
    ·go_wp2_with fail;go_ret;exact HFIN.out _ (Chg.refl _ _)
  ·have HBAD:=Lib.hid hbad
   obtain⟨K,rfl⟩:∃ K:Nat,n=(K:Int):=⟨n.toNat,by omega⟩
   have hKL:K≤(con b).bytes.length:=by omega
   have hn0:¬(K:Int)<0:=by omega
   have hn1:¬((con b).bytes.length:Int)<(K:Int):=by omega
   have hk2:K≤c:=by omega
   have hk0:0≤K:=Nat.zero_le _
   have hmn:min (((con b).safe:Nat):Int) (K:Int)=((min (con b).safe K:Nat):Int):=by omega
   obtain⟨M,hM⟩:∃ M,min (con b).safe K=M:=⟨_,rfl⟩
   rw[hM] at hmn;have HM:=Lib.hid hM
   clear hbad hM;go_wp2_with fail;go_ret;have hrow:=HROW.out
   rw[HSV.out] at hrow;have hrow2:=hrow.cut hKL
   have hlk:((con b).bytes.take K).length=K:=by rw[List.length_take];omega
   have hs1:Chg (fun k=>k=b) w1 (w1.setCell ⟨b,0,none⟩ (.slice a K K)):=Chg.setCell (S:=fun k=>k=b) (p:=⟨b,0,none⟩) (Chg.refl _ w1) (.inl rfl) _
   have hs2:Chg (fun k=>k=b) w1 ((w1.setCell ⟨b,0,none⟩ (.slice a K K)).setCell ⟨b,1,none⟩ (.int .i64 (M:Nat))):=Chg.setCell (S:=fun k=>k=b) (p:=⟨b,1,none⟩) hs1 (.inl rfl) _
   have hroom:∀ k,Value.room (.slice a K K)=some k→Value.room (sv b)=some k:=fun k hk=>by
    rw[HSV.out];cases K with
    | zero=>cases a<;>cases hk
    | succ K=>
     cases c with
     | zero=>omega
     | succ c=>cases a with
      | none=>cases hk
      | some y=>exact hk
   have hnb:Value.room (sv b)≠some b:=HD1.out.p_ne.2.2 _ HMEM.out _ HMEM.out
   obtain⟨g1,g2,g3⟩:=HD1.out.turn (q:=(s.data.toList,b)) HMEM.out (.slice a K K) ⟨(con b).bytes.take K,M⟩ ((HBX.out.set 0 (.slice a K K)).set 1 (.int .i64 (M:Nat))) (hrow2.chg hs2 (fun k hk e=>hnb ((hroom k hk).trans (congrArg some e)))) (hs2.weak (fun k hk=>.inl (.inl hk))) (fun k hk=>.inl (hroom k hk))
   have hsz:=HC1.out.size
   refine done_mk (n:=0) (d':=d.step.turn s.data.toList ⟨(con b).bytes.take K,M⟩) HS.out rfl g1 ?_ ((chg_p HC1.out).trans g2 (fun _ h=>.inl h)) (fun k hk=>(g3 k hk).imp id (fun h=>by omega)) ?_ (HR.out.symm.trans ((at_some HFD.out HX.out).trans ?_))
   ·exact turn_fs (d:=d.step) HFS.out HO.out HD1.out.m.1 HD1.out.nd
   ·refine HOK.out.step.turn (x:=s.data.toList) (g:=con b) HFD.out ?_ ?_
    ·show M≤((con b).bytes.take K).length
     have:=HM.out
     omega
    ·show d.used+((con b).bytes.take K).length≤d.room+(con b).bytes.length
     have:=HOK.out.fits
     omega
   ·have h1:((K:Int)).toNat=K:=Int.toNat_natCast K
    simp only[if_neg HBAD.out,h1,HM.out]
end Go.Proofs.YtobegmcbfgnpnaaGreatDoor
