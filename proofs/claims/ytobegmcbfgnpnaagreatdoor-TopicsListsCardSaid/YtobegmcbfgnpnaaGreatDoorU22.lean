/-
  Sync; what a file's bytes are when they are read.
-/
import Derived.Test.YtobegmcbfgnpnaaGreatDoorU21
set_option linter.unusedVariables false
set_option linter.unusedSimpArgs false
set_option maxHeartbeats 0
set_option maxRecDepth 200000
namespace Go.Proofs.YtobegmcbfgnpnaaGreatDoor
open Go.RowKit Go.Maps
theorem sync_any {w:World} {p:Nat} {S:Nat→Prop} {d:Dk} (h:DiskAt w p S d) (s:ByteArray) (hs:s.size≤4611686018427387904) :
  Calls Tryz.prog 130 #[.pointer (some ⟨p,0,none⟩),.string s] w fun e w'=>e = .returned (errD (d.sync s.data.toList).1)∧DiskAt w' p (Gr S w w') (d.sync s.data.toList).2∧Chg S w w':=by
 obtain⟨mb,fs,sv,con,hd,hfs,hS,hok⟩:=h
 have HF:=Lib.hid (file_any hd hok.left s (by unfold maxLen;omega))
 have hfind:d.find s.data.toList=(fs.lookup s.data.toList).map con:=by unfold Dk.find;rw[hfs];exact find_map con _ fs
 have HFIND:=Lib.hid hfind
 have HFS:=Lib.hid hfs
 have HS:=Lib.hid hS
 have HOK:=Lib.hid hok
 obtain⟨R,hR⟩:∃ R,d.sync s.data.toList=R:=⟨_,rfl⟩
 have HR:=Lib.hid hR
 rw[hR];clear hR hd hfind hfs hS hok hs;go_enter Tryz.func130,Tryz.ntmps130
 go_wp2_with (go_at_call 56;refine HF.out.mono ?_)
 rintro e w1 ⟨hfr,hd1,hc1⟩
 have HC1:=Lib.hid hc1
 have HD1:=Lib.hid hd1
 clear hd1 hc1 HF;rcases hfr with ⟨hx,rfl⟩ | ⟨hx,ho,rfl⟩ | ⟨hx,b,ho,rfl⟩
 ·have HX:=Lib.hid hx
  clear hx;go_wp2_with fail;go_ret;have hd1:=HD1.out
  rw[stepL_of HX.out] at hd1
  exact done_mk (n:=14) (d':=d) HS.out rfl hd1 HFS.out (chg_p HC1.out) (fun k hk=>.inl hk) HOK.out (HR.out.symm.trans (at_not HX.out))
 ·have HX:=Lib.hid hx
  have HO:=Lib.hid ho
  clear hx ho;go_wp2_with fail;go_ret;exact done_mk (n:=7) (d':=d.step) HS.out rfl HD1.out HFS.out (chg_p HC1.out) (fun k hk=>.inl hk) HOK.out.step (HR.out.symm.trans (at_none (by rw[HFIND.out,HO.out];rfl) HX.out))
 ·have HX:=Lib.hid hx
  have HO:=Lib.hid ho
  have hmem:=lookup_some ho
  have hrow:SlcRow w1 5 1 (sv b) (con b).bytes.length ((con b).bytes.map bval):=HD1.out.o _ hmem
  have hbx:Box w1 b [sv b,.int .i64 ((con b).safe:Nat)] 110:=HD1.out.f _ hmem
  have HFD:Hid (d.find s.data.toList=some (con b)):=by unfold Hid;rw[HFIND.out,HO.out];rfl
  have HMEM:=Lib.hid hmem
  have HROW:=Lib.hid hrow
  have HBX:=Lib.hid hbx
  obtain⟨a,c,hsv,_,_⟩:=hrow.form
  have y0:=hbx.cell (j:=0) rfl
  rw[hsv] at y0;have y1:=hbx.cell (j:=1) rfl
  have z1:=hbx.free 1
  have HSV:=Lib.hid hsv
  clear hx ho hmem hrow hbx hsv;go_wp2_with fail;go_ret;have hset:Chg (fun k=>k=b) w1 (w1.setCell ⟨b,1,none⟩ (.int .i64 ((con b).bytes.length:Nat))):=Chg.setCell (S:=fun k=>k=b) (p:=⟨b,1,none⟩) (Chg.refl _ w1) (.inl rfl) _
  obtain⟨g1,g2,g3⟩:=HD1.out.turn (q:=(s.data.toList,b)) HMEM.out (sv b) ⟨(con b).bytes,(con b).bytes.length⟩ (HBX.out.set 1 _) (HROW.out.chg hset (fun k hk e=>HD1.out.p_ne.2.2 _ HMEM.out _ HMEM.out (hk.trans (congrArg some e))))
   (hset.weak (fun k hk=>.inl (.inl hk))) (fun k hk=>.inl hk)
  have hsz:=HC1.out.size
  refine done_mk (n:=0) (d':=d.step.turn s.data.toList ⟨(con b).bytes,(con b).bytes.length⟩) HS.out rfl g1 ?_ ((chg_p HC1.out).trans g2 (fun _ h=>.inl h)) (fun k hk=>(g3 k hk).imp id (fun h=>by omega)) ?_ (HR.out.symm.trans (at_some HFD.out HX.out))
  ·exact turn_fs (d:=d.step) HFS.out HO.out HD1.out.m.1 HD1.out.nd
  ·refine HOK.out.step.turn (x:=s.data.toList) (g:=con b) HFD.out (Nat.le_refl _) ?_
   show d.used+(con b).bytes.length≤d.room+(con b).bytes.length
   have:=HOK.out.fits
   omega
theorem SlcRow.bytes {w:World}{e:TypeId}{v:Value}{l:List UInt8}(h:SlcRow w e 1 v l.length (l.map bval)):∃ a c,v = .slice a l.length c∧BytesAt w a l∧l.length≤c∧c≤maxLen∧(∀ x,a=some x→0<c→Value.room v=some x.block):=by
 rcases h.2 with ⟨rfl,hn⟩ | ⟨a,rfl,hn⟩ | ⟨g,cap,cur,rfl,hg,hnc,hcm,hcs,htake⟩
 ·have:l=[]:=List.eq_nil_of_length_eq_zero hn
  subst this;exact⟨none,0,rfl,fun i hi=>by simp at hi,Nat.le_refl _,Nat.zero_le _,fun x hx=>by cases hx⟩
 ·have:l=[]:=List.eq_nil_of_length_eq_zero hn
  subst this;exact⟨some a,0,rfl,fun i hi=>by simp at hi,Nat.le_refl _,Nat.zero_le _,fun x hx hc=>by omega⟩
 ·refine⟨some ⟨g,0,none⟩,cap,rfl,fun i hi=>⟨g,0,rfl,?_⟩,hnc,hcm,fun x hx hc=>?_⟩
  ·rw[Nat.zero_add,cell_of_row w g i cur e (0,0) hg]
   have h1:(cur.toList.take (l.length*1))[i]? = some (bval l[i]):=by rw[htake];simp[hi]
   rw[List.getElem?_take] at h1
   split at h1
   ·simpa using h1
   ·cases h1
  ·cases hx
   cases cap with
   | zero=>omega
   | succ c=>rfl
theorem SlcRow.pos {w:World}{e:TypeId}{v:Value}{l:List UInt8}(h:SlcRow w e 1 v l.length (l.map bval))(hl:0<l.length):∃ g c,v = .slice (some ⟨g,0,none⟩) l.length c∧BytesAt w (some ⟨g,0,none⟩) l∧l.length≤c∧c≤maxLen:=by
 obtain⟨a,c,hv,hb,h1,h2,_⟩:=h.bytes
 obtain⟨g,off,ha,hc⟩:=hb 0 hl
 rcases h.2 with ⟨rfl,hn⟩ | ⟨a',rfl,hn⟩ | ⟨g',cap,cur,rfl,_⟩
 ·omega
 ·omega
 ·cases hv
  exact⟨_,_,rfl,hb,h1,h2⟩
def Fresh (B:Nat) (w:World) (v:Value) (l:List UInt8):Prop:=∃ a c,v = .slice a l.length c∧BytesAt w a l∧l.length≤c∧(∀ x,a=some x→l≠[]→B≤x.block)∧c≤maxLen
theorem Fresh.chg {S:Nat→Prop}{B:Nat}{w w':World}{v:Value}{l:List UInt8}(h:Fresh B w v l)(hc:Chg S w w')(hn:∀ k,B≤k→¬S k):Fresh B w' v l:=by
 obtain⟨a,c,hv,hb,hl,hx⟩:=h
 refine⟨a,c,hv,?_,hl,hx⟩
 cases l with
 | nil=>exact fun i hi=>by simp at hi
 | cons y r=>exact hc.bytesAt hb (fun x e=>hn _ (hx.1 x e (by simp)))
theorem Fresh.less {B B':Nat}{w:World}{v:Value}{l:List UInt8}(h:Fresh B w v l)(hB:B'≤B):Fresh B' w v l:=by
 obtain⟨a,c,hv,hb,hl,hx⟩:=h
 exact⟨a,c,hv,hb,hl,fun x e hl=>Nat.le_trans hB (hx.1 x e hl),hx.2⟩
theorem clone_any (a:Option Addr) (l:List UInt8) (c:Nat) (w:World) (hl:l.length≤140737488355328) (hb:BytesAt w a l) :
  Calls Tryz.prog 113 #[.slice a l.length c] w fun e w'=>∃ v,e = .returned v∧Fresh w.heap.size w' v l∧Chg Nil w w':=by
 have HL:=Lib.hid hl
 clear hl;have q22:∀ (w:World) (a:Option Addr) (n c n' c':Nat),(binOp .eql 29 (.slice a n c) (.slice none n' c')).run Tryz.prog w = .ok (.bool a.isNone) w:=fun w a n c n' c'=>Lib.run_eql_slice_nil w _ _ a n c n' c' Tryz.underlying29
 cases a with
 | none=>
  have hnil:l=[]:=by
   cases l with
   | nil=>rfl
   | cons x r=>obtain⟨b,off,h,_⟩:=hb 0 (by simp);cases h
  subst hnil;have HB:=Lib.hid hb
  clear hb;go_enter Tryz.func113,Tryz.ntmps113
  go_wp2_with fail;go_ret;exact⟨_,rfl,⟨none,0,rfl,HB.out,Nat.le_refl _,fun x e=>(by cases e),Nat.zero_le _⟩,Chg.refl _ _⟩
 | some x=>
  have hal:=(Chg.refl Nil w).alloc (.cells #[] 5)
  have HB:=Lib.hid (hal.bytesAt hb (fun _ _ h=>h))
  have HAL:=Lib.hid hal
  clear hb hal;go_enter Tryz.func113,Tryz.ntmps113
  go_wp2_with (at_builtin;go_must (refine wpList_append_slc rfl (.tmp 5) (.tmp 6) 29 29 rfl bytT _ Tryz.underlying29 (by intro _;simp) (.slice (some ⟨w.heap.size,0,none⟩) 0 0) 0 [] rfl (SlcRow.zero _ _ _ _) _ l.length (l.map bval) rfl (Source.bytes HB.out) (by have:=HL.out;unfold maxLen;omega) (by have:=HL.out;omega) ?_);intro v3 w3 hrow3 hg3;have HROW3:=Lib.hid hrow3;have HG3:=Lib.hid hg3;clear hrow3 hg3)
  go_ret;have h:=HROW3.out
  rw[Nat.zero_add,List.nil_append] at h;obtain⟨a3,c3,hv,hb,h1,h2,h3⟩:=h.bytes
  refine⟨v3,rfl,⟨a3,c3,hv,hb,h1,fun y hy hne=>?_,h2⟩,HAL.out.trans HG3.out.chg (fun i hi=>by cases hi)⟩
  have hpos:0<l.length:=List.length_pos_iff.2 hne
  rcases HG3.out.own y.block (h3 y hy (by omega)) with g | g
  ·cases g
  ·rw[World.size_alloc] at g;omega
theorem readOf_some {l:List UInt8}{frm most:Int}(h0:0≤frm)(hm:0<most)(hl:l.length≤1048576) (k:Nat)(hk:(k:Int)=min (l.length:Int) (frm+min most 1048576))(hf:frm<l.length) :
  readOf l frm most=(l.drop frm.toNat).take (k-frm.toNat):=by
 unfold readOf;rw[if_neg (by omega)]
 apply List.ext_getElem?
 intro i;rw[List.getElem?_take,List.getElem?_take]
 by_cases h1:i<most.toNat
 ·rw[if_pos h1]
  by_cases h2:i<k-frm.toNat
  ·rw[if_pos h2]
  ·rw[if_neg h2,List.getElem?_eq_none]
   rw[List.length_drop];omega
 ·rw[if_neg h1,if_neg (by omega)]
theorem readOf_none {l:List UInt8}{frm most:Int}(h:frm<0∨(l.length:Int)≤frm∨most≤0):readOf l frm most=[]:=by
 unfold readOf;by_cases h1:frm<0∨most≤0
 ·rw[if_pos h1]
 ·rw[if_neg h1,List.drop_eq_nil_of_le (by omega)]
  simp
theorem BytesAt.part {w:World}{g:Nat}{off:Nat}{l:List UInt8}(h:BytesAt w (some ⟨g,off,none⟩) l) (i k:Nat):BytesAt w (some ⟨g,off+i,none⟩) ((l.drop i).take k):=by
 intro j hj;rw[List.length_take,List.length_drop] at hj;obtain⟨b,o,he,hc⟩:=h (i+j) (by omega)
 cases he
 refine⟨g,off+i,rfl,?_⟩
 rw[Nat.add_assoc,hc];simp
theorem read_any {w:World} {p:Nat} {S:Nat→Prop} {d:Dk} (h:DiskAt w p S d) (s:ByteArray) (hs:s.size≤4611686018427387904) (frm most:Int) :
  Calls Tryz.prog 61 #[.pointer (some ⟨p,0,none⟩),.string s,.int .i64 frm,.int .i64 most] w fun e w'=>∃ v,e = .returned v∧Fresh w.heap.size w' v (d.read s.data.toList frm most)∧Chg Nil w w':=by
 obtain⟨mb,fs,sv,con,hd,hfs,hS,hok⟩:=h
 have c0:=hd.c.cell (j:=0) rfl
 have hlk:=hd.m.look (s:=s) (by unfold maxLen;omega)
 have hfind:d.find s.data.toList=(fs.lookup s.data.toList).map con:=by unfold Dk.find;rw[hfs];exact find_map con _ fs
 have HNIL:Hid (∀ w:World,Fresh w.heap.size w (.slice none 0 0) []):=fun w=>⟨none,0,rfl,fun i hi=>(by simp at hi),Nat.le_refl _,fun x e=>(by cases e),Nat.zero_le _⟩
 obtain⟨o,ho⟩:∃ o,fs.lookup s.data.toList=o:=⟨_,rfl⟩
 rw[ho] at hlk hfind
 cases o with
 | none=>
  have HRD:Hid (d.read s.data.toList frm most=[]):=by unfold Hid Dk.read;rw[hfind];rfl
  simp only[ptrOf,Option.map_none] at hlk
  clear hfind ho hfs hS hok hd hs;go_enter Tryz.func61,Tryz.ntmps61
  go_wp2_with fail;go_ret;rw[HRD.out];exact⟨_,rfl,HNIL.out w,Chg.refl _ _⟩
 | some b=>
  have hmem:=lookup_some ho
  have hrow:SlcRow w 5 1 (sv b) (con b).bytes.length ((con b).bytes.map bval):=hd.o _ hmem
  have hbx:Box w b [sv b,.int .i64 ((con b).safe:Nat)] 110:=hd.f _ hmem
  have hlen:(con b).bytes.length≤1048576:=by
   have h1:=usedOf_mem (con:=con) (a:=fs.map (·.2)) (List.mem_map.2 ⟨_,hmem,rfl⟩)
   have h1':(con b).bytes.length≤usedOf con (fs.map (·.2)):=h1
   have h2:=hok.fits
   have h4:=hok.room
   unfold Dk.used at h2;rw[hfs,used_eq] at h2;omega
  have HRD:Hid (d.read s.data.toList frm most=readOf (con b).bytes frm most):=by unfold Hid Dk.read;rw[hfind];rfl
  simp only[ptrOf,Option.map_some] at hlk
  have y0:=hbx.cell (j:=0) rfl
  have HROW:=Lib.hid hrow
  clear hfind ho hfs hS hok hd hs hmem hbx hrow;generalize (con b).bytes=L at *
  by_cases hgo:0≤frm∧frm<L.length∧0<most
  ·obtain⟨g0,g1,g2⟩:=hgo
   obtain⟨g,c,hv,hby,hle,hcm⟩:=HROW.out.pos (by omega)
   rw[hv] at y0;have n0:¬frm<0:=by omega
   have n1:¬(L.length:Int)≤frm:=by omega
   have n2:¬most≤0:=by omega
   clear hv;obtain⟨fr,rfl⟩:∃ fr:Nat,frm=fr:=⟨frm.toNat,by omega⟩
   obtain⟨m,hm⟩:∃ m:Nat,min most 1048576=(m:Int):=⟨(min most 1048576).toNat,by omega⟩
   have hm0:0<m∧m≤1048576:=by omega
   have hadd:wrap64 ((fr:Int)+(m:Int))=(fr:Int)+(m:Int):=by unfold wrap64;omega
   obtain⟨k,hk⟩:∃ k:Nat,min (L.length:Int) ((fr:Int)+(m:Int))=(k:Int):=⟨(min (L.length:Int) ((fr:Int)+(m:Int))).toNat,by omega⟩
   have hk1:fr<k∧k≤L.length:=by omega
   have HRS:Hid (readOf L fr most=(L.drop fr).take (k-fr)):=by
    have:=readOf_some (l:=L) (frm:=fr) (most:=most) (by omega) g2 hlen k (by rw[hm];omega) (by omega)
    rw[Int.toNat_natCast] at this;exact this
   have HBY:=Lib.hid hby
   have HK:=Lib.hid hk1
   have HLE:=Lib.hid hle
   have HY:=Lib.hid y0
   have HLEN:=Lib.hid hlen
   clear hby;go_enter Tryz.func61,Tryz.ntmps61
   go_wp2_with fail;clear c0 hlk y0 n0 n1 n2 g0 g1 g2 hcm hlen;refine wp_region_mono _ (Chg Nil) (by kernel_rfl) (fun _ _ _ h k=>h.trans k (fun _ h=>h.elim)) [[],[0],[1],[2],[],[],[5],[6],[7],[8],[],[],[11],[10,12],[9,13],[3,4,14],[15],[16]] rfl (by kernel_rfl) (Chg.refl _ _).drew ?_
   iterate 3 ((with_reducible apply Walk.eq);case h=>(intro w2 hw2 N hN;simp only[depM];go_simp;(try go_bits);with_reducible exact hN _ (Chg.refl _ _)))
   (with_reducible apply Walk.eq);case h=>
    intro w2 hw2 N hN;have hq:=hw2.cell HY.out (fun h=>h)
    simp only[depM]
    go_simp;exact hN _ (Chg.refl _ _)
   iterate 4 ((with_reducible apply Walk.eq);case h=>(intro w2 hw2 N hN;simp only[depM];go_simp;(try go_bits);with_reducible exact hN _ (Chg.refl _ _)))
   (with_reducible apply Walk.eq);case h=>
    intro w2 hw2 N hN;have hq:=hw2.cell HY.out (fun h=>h)
    simp only[depM]
    go_simp;exact hN _ (Chg.refl _ _)
   iterate 6 ((with_reducible apply Walk.eq);case h=>(intro w2 hw2 N hN;simp only[depM];go_simp;(try go_bits);with_reducible exact hN _ (Chg.refl _ _)))
   have hk2:fr≤k:=by omega
   have hk3:k≤c:=by omega
   have hk4:¬c=fr:=by omega
   (with_reducible apply Walk.eq);case h=>
    intro w2 hw2 N hN;simp only[depM]
    go_simp;exact hN _ (Chg.refl _ _)
   refine Walk.sat (fun v w2=>Fresh w.heap.size w2 v ((L.drop fr).take (k-fr))) (fun _ _ _ h k=>h.chg k (fun _ _ h=>h)) rfl ?_ ?_
   ·intro w2 hw2 N hN;have hby2:=(hw2.bytesAt HBY.out (fun _ _ h=>h)).part fr (k-fr)
    rw[Nat.zero_add] at hby2;have hcl:=clone_any (some ⟨g,fr,none⟩) ((L.drop fr).take (k-fr)) (c-fr) w2 (by rw[List.length_take,List.length_drop];have:=HLEN.out;omega) hby2
    have hln:((L.drop fr).take (k-fr)).length=k-fr:=by rw[List.length_take,List.length_drop];have:=HK.out;omega
    rw[hln] at hcl;have HCL:=Lib.hid hcl
    clear hby2 hcl hln;simp only[depM]
    go_simp;refine HCL.out.mono ?_
    rintro e w3 ⟨v,rfl,hf,hc3⟩
    exact⟨v,rfl,hN v w3 (hf.less hw2.size) hc3⟩
   (with_reducible apply Walk.sat (fun v w2=>Fresh w.heap.size w2 v ((L.drop fr).take (k-fr))) (fun _ _ _ h k=>h.chg k (fun _ _ h=>h)) rfl)
   ·intro w2 hw2 N hN;simp only[depM]
    rintro v hv
    go_simp;exact hN _ _ hv (Chg.refl _ _)
   intro w2 hw2;simp only[List.nil_append,List.cons_append,Fin]
   intro v1 hv1 v2 hv2;have HV2:=Lib.hid hv2
   have HW2:=Lib.hid hw2
   clear hv1 hv2 hw2;go_simp;go_wp2_with fail;go_ret;rw[HRD.out,HRS.out];exact⟨v2,rfl,HV2.out,HW2.out⟩
  ·have HRN:=Lib.hid (readOf_none (l:=L) (frm:=frm) (most:=most) (by omega))
   obtain⟨a,c,hv,_,_⟩:=HROW.out.bytes
   rw[hv] at y0;clear hv;by_cases n0:frm<0
   ·clear hgo;go_enter Tryz.func61,Tryz.ntmps61
    go_wp2_with fail;go_ret;rw[HRD.out,HRN.out];exact⟨_,rfl,HNIL.out w,Chg.refl _ _⟩
   ·by_cases n1:(L.length:Int)≤frm
    ·clear hgo;go_enter Tryz.func61,Tryz.ntmps61
     go_wp2_with fail;go_ret;rw[HRD.out,HRN.out];exact⟨_,rfl,HNIL.out w,Chg.refl _ _⟩
    ·have n2:most≤0:=by omega
     clear hgo;go_enter Tryz.func61,Tryz.ntmps61
     go_wp2_with fail;go_ret;rw[HRD.out,HRN.out];exact⟨_,rfl,HNIL.out w,Chg.refl _ _⟩
end Go.Proofs.YtobegmcbfgnpnaaGreatDoor
