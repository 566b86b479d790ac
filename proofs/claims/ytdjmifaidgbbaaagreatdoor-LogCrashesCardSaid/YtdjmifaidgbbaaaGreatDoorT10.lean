/-
  Sync; what a file's bytes are when they are read.
-/
import Derived.Test.YtdjmifaidgbbaaaGreatDoorT09
import Derived.Sort.OwnSorted
import Derived.Maps.OwnIn
set_option linter.unusedVariables false
set_option linter.unusedSimpArgs false
set_option maxHeartbeats 0
set_option maxRecDepth 200000
namespace Go.Proofs.YtdjmifaidgbbaaaGreatDoor
open Go.RowKit Go.Maps
theorem sync_any {w:World} {p:Nat} {S:Nat→Prop} {d:Dk} (h:DiskAt w p S d) (s:ByteArray) (hs:s.size≤4611686018427387904) :
  Calls Tryz.prog 95 #[.pointer (some ⟨p,0,none⟩),.string s] w fun e w'=>e = .returned (errD (d.sync s.data.toList).1)∧DiskAt w' p (Gr S w w') (d.sync s.data.toList).2∧Chg S w w':=by
 obtain⟨mb,fs,sv,con,hd,hfs,hS,hok⟩:=h
 have HF:=Lib.hid (file_any hd hok.left s (by unfold maxLen;omega))
 have hfind:d.find s.data.toList=(fs.lookup s.data.toList).map con:=by unfold Dk.find;rw[hfs];exact find_map con _ fs
 have HFIND:=Lib.hid hfind
 have HFS:=Lib.hid hfs
 have HS:=Lib.hid hS
 have HOK:=Lib.hid hok
 obtain⟨R,hR⟩:∃ R,d.sync s.data.toList=R:=⟨_,rfl⟩
 have HR:=Lib.hid hR
 rw[hR];clear hR hd hfind hfs hS hok hs;go_enter Tryz.func95,Tryz.ntmps95
 go_wp2_with (go_at_call 88;refine HF.out.mono ?_)
 rintro e w1 ⟨hfr,hd1,hc1⟩
 have HC1:=Lib.hid hc1
 have HD1:=Lib.hid hd1
 clear hd1 hc1 HF;rcases hfr with ⟨hx,rfl⟩ | ⟨hx,ho,rfl⟩ | ⟨hx,b,ho,rfl⟩
 ·have HX:=Lib.hid hx
  clear hx;go_wp2_with fail;go_ret;have hd1:=HD1.out
  rw[stepL_of HX.out] at hd1
  exact done_mk (n:=14) (d':=d) HS.out rfl hd1 HFS.out (chg_p HC1.out) (fun k hk=>.inl hk) HOK.out (HR.out.symm.trans (at_not HX.out))
 ·have HX:=Lib.hid hx
  have HO:=Lib.hid ho
  clear hx ho;go_wp2_with fail;go_ret;exact done_mk (n:=7) (d':=d.step) HS.out rfl HD1.out HFS.out (chg_p HC1.out) (fun k hk=>.inl hk) HOK.out.step (HR.out.symm.trans (at_none (by rw[HFIND.out,HO.out];rfl) HX.out))
 ·have HX:=Lib.hid hx
  have HO:=Lib.hid ho
  have hmem:=lookup_some ho
  have hrow:SlcRow w1 5 1 (sv b) (con b).bytes.length ((con b).bytes.map bval):=HD1.out.o _ hmem
  have hbx:Box w1 b [sv b,.int .i64 ((con b).safe:Nat)] 141:=HD1.out.f _ hmem
  have HFD:Hid (d.find s.data.toList=some (con b)):=by unfold Hid;rw[HFIND.out,HO.out];rfl
  have HMEM:=Lib.hid hmem
  have HROW:=Lib.hid hrow
  have HBX:=Lib.hid hbx
  obtain⟨a,c,hsv,_,_⟩:=hrow.form
  have y0:=hbx.cell (j:=0) rfl
  rw[hsv] at y0;have y1:=hbx.cell (j:=1) rfl
  have z1:=hbx.free 1
  have HSV:=Lib.hid hsv
  clear hx ho hmem hrow hbx hsv;go_wp2_with fail;go_ret;have hset:Chg (fun k=>k=b) w1 (w1.setCell ⟨b,1,none⟩ (.int .i64 ((con b).bytes.length:Nat))):=Chg.setCell (S:=fun k=>k=b) (p:=⟨b,1,none⟩) (Chg.refl _ w1) (.inl rfl) _
  obtain⟨g1,g2,g3⟩:=HD1.out.turn (q:=(s.data.toList,b)) HMEM.out (sv b) ⟨(con b).bytes,(con b).bytes.length⟩ (HBX.out.set 1 _) (HROW.out.chg hset (fun k hk e=>HD1.out.p_ne.2.2 _ HMEM.out _ HMEM.out (hk.trans (congrArg some e))))
   (hset.weak (fun k hk=>.inl (.inl hk))) (fun k hk=>.inl hk)
  have hsz:=HC1.out.size
  refine done_mk (n:=0) (d':=d.step.turn s.data.toList ⟨(con b).bytes,(con b).bytes.length⟩) HS.out rfl g1 ?_ ((chg_p HC1.out).trans g2 (fun _ h=>.inl h)) (fun k hk=>(g3 k hk).imp id (fun h=>by omega)) ?_ (HR.out.symm.trans (at_some HFD.out HX.out))
  ·exact turn_fs (d:=d.step) HFS.out HO.out HD1.out.m.1 HD1.out.nd
  ·refine HOK.out.step.turn (x:=s.data.toList) (g:=con b) HFD.out (Nat.le_refl _) ?_
   show d.used+(con b).bytes.length≤d.room+(con b).bytes.length
   have:=HOK.out.fits
   omega
theorem SlcRow.bytes {w:World}{e:TypeId}{v:Value}{l:List UInt8}(h:SlcRow w e 1 v l.length (l.map bval)):∃ a c,v = .slice a l.length c∧BytesAt w a l∧l.length≤c∧c≤maxLen∧(∀ x,a=some x→0<c→Value.room v=some x.block):=by
 rcases h.2 with ⟨rfl,hn⟩ | ⟨a,rfl,hn⟩ | ⟨g,cap,cur,rfl,hg,hnc,hcm,hcs,htake⟩
 ·have:l=[]:=List.eq_nil_of_length_eq_zero hn
  subst this;exact⟨none,0,rfl,fun i hi=>by simp at hi,Nat.le_refl _,Nat.zero_le _,fun x hx=>by cases hx⟩
 ·have:l=[]:=List.eq_nil_of_length_eq_zero hn
  subst this;exact⟨some a,0,rfl,fun i hi=>by simp at hi,Nat.le_refl _,Nat.zero_le _,fun x hx hc=>by omega⟩
 ·refine⟨some ⟨g,0,none⟩,cap,rfl,fun i hi=>⟨g,0,rfl,?_⟩,hnc,hcm,fun x hx hc=>?_⟩
  ·rw[Nat.zero_add,cell_of_row w g i cur e (0,0) hg]
   have h1:(cur.toList.take (l.length*1))[i]? = some (bval l[i]):=by rw[htake];simp[hi]
   rw[List.getElem?_take] at h1
   split at h1
   ·simpa using h1
   ·cases h1
  ·cases hx
   cases cap with
   | zero=>omega
   | succ c=>rfl
theorem SlcRow.pos {w:World}{e:TypeId}{v:Value}{l:List UInt8}(h:SlcRow w e 1 v l.length (l.map bval))(hl:0<l.length):∃ g c,v = .slice (some ⟨g,0,none⟩) l.length c∧BytesAt w (some ⟨g,0,none⟩) l∧l.length≤c∧c≤maxLen:=by
 obtain⟨a,c,hv,hb,h1,h2,_⟩:=h.bytes
 obtain⟨g,off,ha,hc⟩:=hb 0 hl
 rcases h.2 with ⟨rfl,hn⟩ | ⟨a',rfl,hn⟩ | ⟨g',cap,cur,rfl,_⟩
 ·omega
 ·omega
 ·cases hv
  exact⟨_,_,rfl,hb,h1,h2⟩
def Fresh (B:Nat) (w:World) (v:Value) (l:List UInt8):Prop:=∃ a c,v = .slice a l.length c∧BytesAt w a l∧l.length≤c∧(∀ x,a=some x→l≠[]→B≤x.block)∧c≤maxLen
theorem Fresh.chg {S:Nat→Prop}{B:Nat}{w w':World}{v:Value}{l:List UInt8}(h:Fresh B w v l)(hc:Chg S w w')(hn:∀ k,B≤k→¬S k):Fresh B w' v l:=by
 obtain⟨a,c,hv,hb,hl,hx⟩:=h
 refine⟨a,c,hv,?_,hl,hx⟩
 cases l with
 | nil=>exact fun i hi=>by simp at hi
 | cons y r=>exact hc.bytesAt hb (fun x e=>hn _ (hx.1 x e (by simp)))
theorem Fresh.less {B B':Nat}{w:World}{v:Value}{l:List UInt8}(h:Fresh B w v l)(hB:B'≤B):Fresh B' w v l:=by
 obtain⟨a,c,hv,hb,hl,hx⟩:=h
 exact⟨a,c,hv,hb,hl,fun x e hl=>Nat.le_trans hB (hx.1 x e hl),hx.2⟩
theorem clone_any (a:Option Addr) (l:List UInt8) (c:Nat) (w:World) (hl:l.length≤140737488355328) (hb:BytesAt w a l) :
  Calls Tryz.prog 130 #[.slice a l.length c] w fun e w'=>∃ v,e = .returned v∧Fresh w.heap.size w' v l∧Chg Nil w w':=by
 have HL:=Lib.hid hl
 clear hl;have q22:∀ (w:World) (a:Option Addr) (n c n' c':Nat),(binOp .eql 57 (.slice a n c) (.slice none n' c')).run Tryz.prog w = .ok (.bool a.isNone) w:=fun w a n c n' c'=>Lib.run_eql_slice_nil w _ _ a n c n' c' Tryz.underlying57
 cases a with
 | none=>
  have hnil:l=[]:=by
   cases l with
   | nil=>rfl
   | cons x r=>obtain⟨b,off,h,_⟩:=hb 0 (by simp);cases h
  subst hnil;have HB:=Lib.hid hb
  clear hb;go_enter Tryz.func130,Tryz.ntmps130
  go_wp2_with fail;go_ret;exact⟨_,rfl,⟨none,0,rfl,HB.out,Nat.le_refl _,fun x e=>(by cases e),Nat.zero_le _⟩,Chg.refl _ _⟩
 | some x=>
  have hal:=(Chg.refl Nil w).alloc (.cells #[] 5)
  have HB:=Lib.hid (hal.bytesAt hb (fun _ _ h=>h))
  have HAL:=Lib.hid hal
  clear hb hal;go_enter Tryz.func130,Tryz.ntmps130
  go_wp2_with (at_builtin;go_must (refine wpList_append_slc rfl (.tmp 5) (.tmp 6) 57 57 rfl bytT _ Tryz.underlying57 (by intro _;simp) (.slice (some ⟨w.heap.size,0,none⟩) 0 0) 0 [] rfl (SlcRow.zero _ _ _ _) _ l.length (l.map bval) rfl (Source.bytes HB.out) (by have:=HL.out;unfold maxLen;omega) (by have:=HL.out;omega) ?_);intro v3 w3 hrow3 hg3;have HROW3:=Lib.hid hrow3;have HG3:=Lib.hid hg3;clear hrow3 hg3)
  go_ret;have h:=HROW3.out
  rw[Nat.zero_add,List.nil_append] at h;obtain⟨a3,c3,hv,hb,h1,h2,h3⟩:=h.bytes
  refine⟨v3,rfl,⟨a3,c3,hv,hb,h1,fun y hy hne=>?_,h2⟩,HAL.out.trans HG3.out.chg (fun i hi=>by cases hi)⟩
  have hpos:0<l.length:=List.length_pos_iff.2 hne
  rcases HG3.out.own y.block (h3 y hy (by omega)) with g | g
  ·cases g
  ·rw[World.size_alloc] at g;omega
theorem readOf_some {l:List UInt8}{frm most:Int}(h0:0≤frm)(hm:0<most)(hl:l.length≤1048576) (k:Nat)(hk:(k:Int)=min (l.length:Int) (frm+min most 1048576))(hf:frm<l.length) :
  readOf l frm most=(l.drop frm.toNat).take (k-frm.toNat):=by
 unfold readOf;rw[if_neg (by omega)]
 apply List.ext_getElem?
 intro i;rw[List.getElem?_take,List.getElem?_take]
 by_cases h1:i<most.toNat
 ·rw[if_pos h1]
  by_cases h2:i<k-frm.toNat
  ·rw[if_pos h2]
  ·rw[if_neg h2,List.getElem?_eq_none]
   rw[List.length_drop];omega
 ·rw[if_neg h1,if_neg (by omega)]
theorem readOf_none {l:List UInt8}{frm most:Int}(h:frm<0∨(l.length:Int)≤frm∨most≤0):readOf l frm most=[]:=by
 unfold readOf;by_cases h1:frm<0∨most≤0
 ·rw[if_pos h1]
 ·rw[if_neg h1,List.drop_eq_nil_of_le (by omega)]
  simp
theorem BytesAt.part {w:World}{g:Nat}{off:Nat}{l:List UInt8}(h:BytesAt w (some ⟨g,off,none⟩) l) (i k:Nat):BytesAt w (some ⟨g,off+i,none⟩) ((l.drop i).take k):=by
 intro j hj;rw[List.length_take,List.length_drop] at hj;obtain⟨b,o,he,hc⟩:=h (i+j) (by omega)
 cases he
 refine⟨g,off+i,rfl,?_⟩
 rw[Nat.add_assoc,hc];simp
theorem read_any {w:World} {p:Nat} {S:Nat→Prop} {d:Dk} (h:DiskAt w p S d) (s:ByteArray) (hs:s.size≤4611686018427387904) (frm most:Int) :
  Calls Tryz.prog 91 #[.pointer (some ⟨p,0,none⟩),.string s,.int .i64 frm,.int .i64 most] w fun e w'=>∃ v,e = .returned v∧Fresh w.heap.size w' v (d.read s.data.toList frm most)∧Chg Nil w w':=by
 obtain⟨mb,fs,sv,con,hd,hfs,hS,hok⟩:=h
 have c0:=hd.c.cell (j:=0) rfl
 have hlk:=hd.m.look (s:=s) (by unfold maxLen;omega)
 have hfind:d.find s.data.toList=(fs.lookup s.data.toList).map con:=by unfold Dk.find;rw[hfs];exact find_map con _ fs
 have HNIL:Hid (∀ w:World,Fresh w.heap.size w (.slice none 0 0) []):=fun w=>⟨none,0,rfl,fun i hi=>(by simp at hi),Nat.le_refl _,fun x e=>(by cases e),Nat.zero_le _⟩
 obtain⟨o,ho⟩:∃ o,fs.lookup s.data.toList=o:=⟨_,rfl⟩
 rw[ho] at hlk hfind
 cases o with
 | none=>
  have HRD:Hid (d.read s.data.toList frm most=[]):=by unfold Hid Dk.read;rw[hfind];rfl
  simp only[ptrOf,Option.map_none] at hlk
  clear hfind ho hfs hS hok hd hs;go_enter Tryz.func91,Tryz.ntmps91
  go_wp2_with fail;go_ret;rw[HRD.out];exact⟨_,rfl,HNIL.out w,Chg.refl _ _⟩
 | some b=>
  have hmem:=lookup_some ho
  have hrow:SlcRow w 5 1 (sv b) (con b).bytes.length ((con b).bytes.map bval):=hd.o _ hmem
  have hbx:Box w b [sv b,.int .i64 ((con b).safe:Nat)] 141:=hd.f _ hmem
  have hlen:(con b).bytes.length≤1048576:=by
   have h1:=usedOf_mem (con:=con) (a:=fs.map (·.2)) (List.mem_map.2 ⟨_,hmem,rfl⟩)
   have h1':(con b).bytes.length≤usedOf con (fs.map (·.2)):=h1
   have h2:=hok.fits
   have h4:=hok.room
   unfold Dk.used at h2;rw[hfs,used_eq] at h2;omega
  have HRD:Hid (d.read s.data.toList frm most=readOf (con b).bytes frm most):=by unfold Hid Dk.read;rw[hfind];rfl
  simp only[ptrOf,Option.map_some] at hlk
  have y0:=hbx.cell (j:=0) rfl
  have HROW:=Lib.hid hrow
  clear hfind ho hfs hS hok hd hs hmem hbx hrow;generalize (con b).bytes=L at *
  by_cases hgo:0≤frm∧frm<L.length∧0<most
  ·obtain⟨g0,g1,g2⟩:=hgo
   obtain⟨g,c,hv,hby,hle,hcm⟩:=HROW.out.pos (by omega)
   rw[hv] at y0;have n0:¬frm<0:=by omega
   have n1:¬(L.length:Int)≤frm:=by omega
   have n2:¬most≤0:=by omega
   clear hv;obtain⟨fr,rfl⟩:∃ fr:Nat,frm=fr:=⟨frm.toNat,by omega⟩
   obtain⟨m,hm⟩:∃ m:Nat,min most 1048576=(m:Int):=⟨(min most 1048576).toNat,by omega⟩
   have hm0:0<m∧m≤1048576:=by omega
   have hadd:wrap64 ((fr:Int)+(m:Int))=(fr:Int)+(m:Int):=by unfold wrap64;omega
   obtain⟨k,hk⟩:∃ k:Nat,min (L.length:Int) ((fr:Int)+(m:Int))=(k:Int):=⟨(min (L.length:Int) ((fr:Int)+(m:Int))).toNat,by omega⟩
   have hk1:fr<k∧k≤L.length:=by omega
   have HRS:Hid (readOf L fr most=(L.drop fr).take (k-fr)):=by
    have:=readOf_some (l:=L) (frm:=fr) (most:=most) (by omega) g2 hlen k (by rw[hm];omega) (by omega)
    rw[Int.toNat_natCast] at this;exact this
   have HBY:=Lib.hid hby
   have HK:=Lib.hid hk1
   have HLE:=Lib.hid hle
   have HY:=Lib.hid y0
   have HLEN:=Lib.hid hlen
   clear hby;go_enter Tryz.func91,Tryz.ntmps91
   go_wp2_with fail;clear c0 hlk y0 n0 n1 n2 g0 g1 g2 hcm hlen;refine wp_region_mono _ (Chg Nil) (by kernel_rfl) (fun _ _ _ h k=>h.trans k (fun _ h=>h.elim)) [[],[0],[1],[2],[],[],[5],[6],[7],[8],[],[],[11],[10,12],[9,13],[3,4,14],[15],[16]] rfl (by kernel_rfl) (Chg.refl _ _).drew ?_
   iterate 3 ((with_reducible apply Walk.eq);case h=>(intro w2 hw2 N hN;simp only[depM];go_simp;(try go_bits);with_reducible exact hN _ (Chg.refl _ _)))
   (with_reducible apply Walk.eq);case h=>
    intro w2 hw2 N hN;have hq:=hw2.cell HY.out (fun h=>h)
    simp only[depM]
    go_simp;exact hN _ (Chg.refl _ _)
   iterate 4 ((with_reducible apply Walk.eq);case h=>(intro w2 hw2 N hN;simp only[depM];go_simp;(try go_bits);with_reducible exact hN _ (Chg.refl _ _)))
   (with_reducible apply Walk.eq);case h=>
    intro w2 hw2 N hN;have hq:=hw2.cell HY.out (fun h=>h)
    simp only[depM]
    go_simp;exact hN _ (Chg.refl _ _)
   iterate 6 ((with_reducible apply Walk.eq);case h=>(intro w2 hw2 N hN;simp only[depM];go_simp;(try go_bits);with_reducible exact hN _ (Chg.refl _ _)))
   have hk2:fr≤k:=by omega
   have hk3:k≤c:=by omega
   have hk4:¬c=fr:=by omega
   (with_reducible apply Walk.eq);case h=>
    intro w2 hw2 N hN;simp only[depM]
    go_simp;exact hN _ (Chg.refl _ _)
   refine Walk.sat (fun v w2=>Fresh w.heap.size w2 v ((L.drop fr).take (k-fr))) (fun _ _ _ h k=>h.chg k (fun _ _ h=>h)) rfl ?_ ?_
   ·intro w2 hw2 N hN;have hby2:=(hw2.bytesAt HBY.out (fun _ _ h=>h)).part fr (k-fr)
    rw[Nat.zero_add] at hby2;have hcl:=clone_any (some ⟨g,fr,none⟩) ((L.drop fr).take (k-fr)) (c-fr) w2 (by rw[List.length_take,List.length_drop];have:=HLEN.out;omega) hby2
    have hln:((L.drop fr).take (k-fr)).length=k-fr:=by rw[List.length_take,List.length_drop];have:=HK.out;omega
    rw[hln] at hcl;have HCL:=Lib.hid hcl
    clear hby2 hcl hln;simp only[depM]
    go_simp;refine HCL.out.mono ?_
    rintro e w3 ⟨v,rfl,hf,hc3⟩
    exact⟨v,rfl,hN v w3 (hf.less hw2.size) hc3⟩
   (with_reducible apply Walk.sat (fun v w2=>Fresh w.heap.size w2 v ((L.drop fr).take (k-fr))) (fun _ _ _ h k=>h.chg k (fun _ _ h=>h)) rfl)
   ·intro w2 hw2 N hN;simp only[depM]
    rintro v hv
    go_simp;exact hN _ _ hv (Chg.refl _ _)
   intro w2 hw2;simp only[List.nil_append,List.cons_append,Fin]
   intro v1 hv1 v2 hv2;have HV2:=Lib.hid hv2
   have HW2:=Lib.hid hw2
   clear hv1 hv2 hw2;go_simp;go_wp2_with fail;go_ret;rw[HRD.out,HRS.out];exact⟨v2,rfl,HV2.out,HW2.out⟩
  ·have HRN:=Lib.hid (readOf_none (l:=L) (frm:=frm) (most:=most) (by omega))
   obtain⟨a,c,hv,_,_⟩:=HROW.out.bytes
   rw[hv] at y0;clear hv;by_cases n0:frm<0
   ·clear hgo;go_enter Tryz.func91,Tryz.ntmps91
    go_wp2_with fail;go_ret;rw[HRD.out,HRN.out];exact⟨_,rfl,HNIL.out w,Chg.refl _ _⟩
   ·by_cases n1:(L.length:Int)≤frm
    ·clear hgo;go_enter Tryz.func91,Tryz.ntmps91
     go_wp2_with fail;go_ret;rw[HRD.out,HRN.out];exact⟨_,rfl,HNIL.out w,Chg.refl _ _⟩
    ·have n2:most≤0:=by omega
     clear hgo;go_enter Tryz.func91,Tryz.ntmps91
     go_wp2_with fail;go_ret;rw[HRD.out,HRN.out];exact⟨_,rfl,HNIL.out w,Chg.refl _ _⟩
open Go.Sort Go.Shelf
attribute [local go_sem] Oper.semAt_some
def OwnS (B:Nat) (w:World) (v:Value) (l:List Nm):Prop:=w.ownsRow B 9 1 v l.length (l.map encStr)
theorem sortN_len (l:List Nm):(sortN l).length=l.length:=(List.mergeSort_perm l _).length_eq
theorem sortS_any {B:Nat}{w:World}{v:Value}{l:List Nm}(h:OwnS B w v l)(hl:l.length≤1000000) :
  Calls Tryz.prog 83 #[v] w fun e w'=>e = .returned (.tuple #[])∧OwnS B w' v (sortN l)∧w.grownBy w' v.ownBlock:=by
 rcases h.2 with ⟨rfl,hn⟩ | ⟨g,cap,cur,rfl,hbg,hg,hnc,hcm,hcs,htake⟩
 ·have hnil:l=[]:=List.eq_nil_of_length_eq_zero hn
  subst hnil;refine (AnyM.slices_Sort_string_none Tryz.sortS none 0 w).mono ?_
  rintro e w' ⟨rfl,rfl⟩
  have e0:sortN []=[]:=by simp[sortN]
  rw[e0];exact⟨rfl,h,rfl,rfl,rfl,Nat.le_refl _,fun _ _ _=>rfl⟩
 ·have hglt:g<w.heap.size:=(Array.getElem?_eq_some_iff.1 hg).1
  rw[Nat.mul_one] at htake;have hH:=holds_of_block hg htake
  refine (AnyM.slices_Sort_string Tryz.sortS g 0 cap l w hH hglt (by omega)).mono ?_
  rintro e w' ⟨rfl,n,os,rfl⟩
  refine⟨rfl,?_,grownBy_sorted _⟩
  have:=ownsRow_sorted (w:=w) (base:=B) (g:=g) (cap:=cap) (n:=n) (e:=9) (os:=os) (cur:=cur) (ss:=l) (ts:=sortN l) (sortN_len l) hbg hg hnc hcm hcs
  unfold OwnS;rw[sortN_len];exact this
theorem strInfo:(Tryz.prog.info? 9).map (fun i=>(i.zero,i.size,i.bytes))=some (some (.string ⟨#[]⟩),1,16):=by kernel_rfl
theorem own_row {w:World}{B:Nat}{v:Value}{l:List Nm}(h:OwnS B w v l) {k:Nat}(hk:v.ownBlock=some k):∃ cur,w.heap[k]? = some (.cells cur 9 (0,0)):=by
 rcases h.2 with ⟨rfl,_⟩ | ⟨g,cap,cur,rfl,_,hg,_⟩
 ·cases hk
 ·obtain rfl:g=k:=Option.some.inj hk
  exact⟨cur,hg⟩
theorem sortN_perm {a b:List Nm}(h:a.Perm b):sortN a=sortN b:=by
 have tr:∀ x y z:Nm,decide (x≤y)=true→decide (y≤z)=true→decide (x≤z)=true:=fun x y z h1 h2=>decide_eq_true (List.le_trans (of_decide_eq_true h1) (of_decide_eq_true h2))
 have tt:∀ x y:Nm,(decide (x≤y)||decide (y≤x))=true:=fun x y=>by
  rcases List.le_total x y with h | h
  ·rw[decide_eq_true h];rfl
  ·rw[decide_eq_true h,Bool.or_true]
 have s1:=List.pairwise_mergeSort tr tt a
 have s2:=List.pairwise_mergeSort tr tt b
 have hp:(sortN a).Perm (sortN b):=(List.mergeSort_perm a _).trans (h.trans (List.mergeSort_perm b _).symm)
 exact hp.eq_of_pairwise (fun x y _ _ h1 h2=>List.le_antisymm (of_decide_eq_true h1) (of_decide_eq_true h2)) s1 s2
def begins (b:Nm) (l:List Nm):List Nm:=l.filter fun x=>b.isPrefixOf x
theorem list_in {w:World} {p mb:Nat} {fs:List (Nm×Nat)} {sv:Nat→Value} {con:Nat→Fl} {room:Nat} {left:Int} (h:Dm w p mb fs sv con room left) (hfn:fs.length≤200) (bg:ByteArray) :
  CallsIn Fence.wide 6 Tryz.prog 49 #[.pointer (some ⟨p,0,none⟩),.string bg] w fun e w'=>∃ v,e = .returned v∧OwnS w.heap.size w' v (sortN (begins bg.data.toList (fs.map (·.1))))∧Below w.heap.size w w':=by
 have hal1:=(Chg.refl Nil w).alloc (.cells #[.string bg] 9)
 have hal2:=hal1.alloc (.cells #[.slice none 0 0] 100)
 have c0:=hal2.cell (h.c.cell (j:=0) rfl) (fun h=>h)
 have hal3:=hal2.alloc (.cells #[.map (some mb)] 94)
 have hD0:=h.chg hal3 (fun _ _ h=>h)
 have hb1:Boxed (w.alloc (.cells #[.string bg] 9)) w.heap.size 9 (.string bg):=Boxed.new w _ _
 have hb2:Boxed ((w.alloc (.cells #[.string bg] 9)).alloc (.cells #[.slice none 0 0] 100)) (w.heap.size+1) 100 (.slice none 0 0):=by
  have:=Boxed.new (w.alloc (.cells #[.string bg] 9)) 100 (.slice none 0 0)
  rwa [World.size_alloc] at this
 have hb3:Boxed (((w.alloc (.cells #[.string bg] 9)).alloc (.cells #[.slice none 0 0] 100)).alloc (.cells #[.map (some mb)] 94)) (w.heap.size+2) 94 (.map (some mb)):=by
  have:=Boxed.new ((w.alloc (.cells #[.string bg] 9)).alloc (.cells #[.slice none 0 0] 100)) 94 (.map (some mb))
  rwa [World.size_alloc,World.size_alloc] at this
 have hb1:=(hb1.alloc (.cells #[.slice none 0 0] 100)).alloc (.cells #[.map (some mb)] 94)
 have hb2:=hb2.alloc (.cells #[.map (some mb)] 94)
 have hs3:(((w.alloc (.cells #[.string bg] 9)).alloc (.cells #[.slice none 0 0] 100)).alloc (.cells #[.map (some mb)] 94)).heap.size=w.heap.size+3:=by simp
 have hBW:Below w.heap.size w (((w.alloc (.cells #[.string bg] 9)).alloc (.cells #[.slice none 0 0] 100)).alloc (.cells #[.map (some mb)] 94)):=hal3.below (fun _ _ h=>h)
 refine callsIn_of_wp_marks Tryz.func49 rfl trivial ?_ rfl
 simp only[Tryz.ntmps49,List.size_toArray,List.length_cons,List.length_nil,Nat.reduceAdd,Nat.reduceSub,Array.replicate_succ,Array.replicate_zero,List.push_toArray,List.append_toArray,List.nil_append,List.cons_append]
 have hfv:Fence.wide.fn 81:=trivial
 gi_wp2_with (gi_at_call 81;refine (mkeys_in Fence.wide _ trivial rfl _ _).mono ?_;rintro e w' ⟨rfl,rfl⟩)
 generalize ((w.alloc (.cells #[.string bg] 9)).alloc (.cells #[.slice none 0 0] 100)).alloc (.cells #[.map (some mb)] 94)=W0 at *;obtain⟨i0,hi,hz0,hz1,hz2⟩:=info_parts strInfo
 have HD0:=Lib.hid hD0
 have HNI:Hid (∀ pre:List {x:Nm // x∈fs.map (·.1)},pre.length<fs.length→(begins bg.data.toList (pre.map (·.1))).length≤200):=fun pre hp=>by
  have:=List.length_filter_le (fun x=>bg.data.toList.isPrefixOf x) (pre.map (·.1))
  rw[List.length_map] at this;exact Nat.le_trans this (by omega)
 clear h hal1 hal2 hal3 c0;refine wpIn_rangeFunc_ownF (α:={x:Nm // x∈fs.map (·.1)}) rfl (by omega) (gf:=116) (lb:=#[.pointer (some ⟨w.heap.size+2,0,none⟩)]) rfl trivial (enters_of Tryz.func116 (by kernel_rfl) rfl)
  (keys_stops Fence.wide _ trivial rfl (by omega) (w.heap.size+2) mb fs W0 (by omega) hb3.cell hD0.m) walksK_t walksK_b (Below.refl _ _) (fun _=>rfl)
  (fun pre W=>((∃ v,Boxed W (w.heap.size+1) 100 v∧W.ownsRow w.heap.size 9 1 v (begins bg.data.toList (pre.map (·.1))).length ((begins bg.data.toList (pre.map (·.1))).map encStr)∧(∀ k,v.ownBlock=some k→w.heap.size+3≤k))∧Boxed W w.heap.size 9 (.string bg))∧Below w.heap.size w W)
  (fun _ _ _=>False)
  (OwnFrom.and (OwnFrom.and (_root_.Go.Own.from (holdsRow_own w.heap.size _ _ _ 1 (fun pre:List {x:Nm // x∈fs.map (·.1)}=>(begins bg.data.toList (pre.map (·.1))).length) (fun pre=>(begins bg.data.toList (pre.map (·.1))).map encStr) (fun _ v=>∀ k,v.ownBlock=some k→w.heap.size+3≤k)) _) (_root_.Go.Own.from (boxed_own _ _ _) _)) (ownFrom_below (Nat.le_refl _) (by omega)))
  (fun _ _ _ _ _ hs _ _=>hs)
  ⟨⟨⟨_,hb2,World.ownsRow_nil _ _ _ _,fun k hk=>(by cases hk)⟩,hb1⟩,hBW⟩
  (fun x=>{ tmps:=#[.pointer (some ⟨p,0,none⟩),.string bg,undef,.pointer (some ⟨w.heap.size,0,none⟩),.slice none 0 0,.pointer (some ⟨w.heap.size+1,0,none⟩),encStr x.1,.pointer (some ⟨p,0,none⟩),.pointer (some ⟨p,0,none⟩),.pointer (some ⟨p,0,none⟩),.map (some mb),.func (.func 116) #[] #[.pointer (some ⟨w.heap.size+1+1,0,none⟩)],encStr x.1,undef,undef,undef,undef,undef,undef,undef,undef,undef,undef],defers:=[] }) ?assign ?body ?done ?stop
 case assign=>
  intro l x W K hK;gi_wp2
  exact hK
 case body=>
  rintro l pre ⟨x,hx⟩ W ⟨⟨⟨v,hbox,hrow,hvn⟩,hbb⟩,hB⟩ hlen
  have hle:=HNI.out pre hlen
  have hsn:begins bg.data.toList ((pre++[(⟨x,hx⟩:{x:Nm // x∈fs.map (·.1)})]).map (·.1))=begins bg.data.toList (pre.map (·.1))++(if bg.data.toList.isPrefixOf x=true then [x] else []):=by
   rw[List.map_append];simp only[begins,List.filter_append,List.map_cons,List.map_nil]
   congr 1
   by_cases hp:bg.data.toList.isPrefixOf x=true
   ·simp[hp]
   ·simp[hp]
  have HSN:=Lib.hid hsn
  generalize begins bg.data.toList (pre.map (·.1))=ys at *;have hpc:=hbb.cell
  have hv:=hbox
  have hvc:=hv.cell
  have hvf:=hv.frozen
  have hrowa:=hrow.alloc (.cells #[encStr x] 9)
  have hHP:=fun W=>Any.strings_HasPrefix Tryz.lays99 ⟨x.toArray⟩ bg W
  clear hsn;have hle9:w.heap.size≤w.heap.size+1:=Nat.le_succ _
  by_cases hp:bg.data.toList.isPrefixOf x=true
  ·have hpp:Lib.hasPrefix x bg.data.toList=true:=hp
   have HSN2:=HSN.out
   rw[if_pos hp] at HSN2
   have HSN3:=Lib.hid HSN2
   clear HSN HSN2 hp;gi_wp2_with (first
    | (refine⟨trivial,?_⟩;gi_at_call 82;refine (CallsIn.inRound l (callsIn_wide.2 (hHP _))).mono ?_;rintro e w' ⟨rfl,rfl⟩)
    | (gi_at_builtin;go_must (refine wpListIn_append_own_at _ rfl _ _ 100 rfl w.heap.size 9 i0 (.string ⟨#[]⟩) 1 16 Tryz.underlying100 hi hz0 hz1 hz2 rfl (by decide) _ _ _ rfl hrowa ⟨_,0,none⟩ 1 1 [encStr x] rfl rfl (cell_one_new _ _ _) (by simp[Value.oneCell',encStr]) (by unfold maxLen;omega) (by omega) (by have:=hB.size;simp;omega) ?_);intro v' w1 hown' hgrow _ hnw;obtain⟨g',cap',rfl⟩:=ownsRow_succ hown';obtain⟨hv1,hv2,hr2,hk2,hb2⟩:=hv.appended (by decide) hrow hB.size hle9 hown' hgrow;have hc1:=hv1.cell;have hf1:=hv1.frozen))
   have hbb2:Boxed (w1.setCell ⟨w.heap.size+1,0,none⟩ (.slice (some ⟨g',0,none⟩) (ys.length+1) cap')) w.heap.size 9 (.string bg):=((hbb.alloc _).kept hgrow (fun e=>by have:=hvn _ e.symm;omega)).other (by omega) _
   have hsz2:=hbox.lt
   refine⟨hk2,hk2.walks,⟨⟨_,hv2,?_,fun k hk=>?_⟩,hbb2⟩,hB.trans hb2⟩
   ·rw[HSN3.out,List.length_append,List.map_append];exact hr2
   ·rcases hnw with g | g
    ·rw[hk] at g;exact hvn k g.symm
    ·rw[hk,World.size_alloc] at g;have:=Option.some.inj g
     omega
  ·have hpp:Lib.hasPrefix x bg.data.toList=false:=by
    cases h:Lib.hasPrefix x bg.data.toList with
    | false=>rfl
    | true=>exact absurd h hp
   have HSN2:=HSN.out
   rw[if_neg hp,List.append_nil] at HSN2
   have HSN3:=Lib.hid HSN2
   clear HSN HSN2 hp;gi_wp2_with (refine⟨trivial,?_⟩;gi_at_call 82;refine (CallsIn.inRound l (callsIn_wide.2 (hHP _))).mono ?_;rintro e w' ⟨rfl,rfl⟩)
   refine⟨KeepsOthers.refl _,(KeepsOthers.refl _).walks,⟨⟨v,hbox,?_,hvn⟩,hbb⟩,hB⟩
   rw[HSN3.out];exact hrow
 case done=>
  rintro D xs W hD hS ⟨⟨⟨v,hbox,hrow,hvn⟩,hbb⟩,hB⟩ hK
  have hvc:=hbox.cell
  have hys:begins bg.data.toList (xs.map (·.1)) |>.Perm (begins bg.data.toList (fs.map (·.1))):=hS.filter _
  have hlen9:(begins bg.data.toList (xs.map (·.1))).length≤200:=by
   rw[hys.length_eq];refine Nat.le_trans (List.length_filter_le _ _) ?_
   rw[List.length_map];exact hfn
  obtain⟨ys,hy9⟩:∃ ys,begins bg.data.toList (xs.map (·.1))=ys:=⟨_,rfl⟩
  rw[hy9] at hys hrow hlen9
  have hown:OwnS w.heap.size W v ys:=hrow
  have HSORT:=Lib.hid (sortS_any hown (by omega))
  have hnr:some (w.heap.size+1)≠v.ownBlock:=hbox.not_row (by decide) hrow
  have hnD:some D≠v.ownBlock:=fun e=>by
   obtain⟨cur,hcur⟩:=own_row hown e.symm
   rw[hK] at hcur;cases hcur
  have hfin:∀ w2:World,OwnS w.heap.size w2 v (sortN ys)→w2.heap[D]? = some (.deferred (some []))→OwnS w.heap.size (w2.putObj D (.deferred none)) v (sortN (begins bg.data.toList (fs.map (·.1)))):=fun w2 h2 hk2=>by
   rw[←sortN_perm hys]
   exact ownsRow_putObj h2 _ hk2 rfl
  gi_wp2_with (refine⟨trivial,?_⟩;gi_at_call 83;refine (callsIn_wide.2 HSORT.out).mono ?_;rintro e w2 ⟨rfl,hrow2,hgr⟩;have hbox2:=hbox.kept hgr hnr;have hvc2:=hbox2.cell)
  refine⟨by simp,.inl ⟨_,_,rfl,run_takeDeferred ((hgr.block D (by have:=(Array.getElem?_eq_some_iff.1 hK).1;exact this) hnD).trans hK),?_⟩⟩
  have hK2:w2.heap[D]? = some (.deferred (some [])):=(hgr.block D (Array.getElem?_eq_some_iff.1 hK).1 hnD).trans hK
  have hBw2:Below w.heap.size w w2:=hB.grown hgr hB.size (fun k hk=>by have:=hvn k hk;omega)
  exact⟨_,results_tmp rfl _ _ _,v,rfl,hfin _ hrow2 hK2,hBw2.trans (belowK_b (w:=w) (Nat.le_refl _) w2 D _ _ (by omega) hK2 rfl rfl)⟩
 case stop=>
  rintro D c pre W _ _ h _
  exact h.elim
theorem list_any {w:World}{p mb:Nat}{fs:List (Nm×Nat)}{sv:Nat→Value}{con:Nat→Fl}{room:Nat}{left:Int}(h:Dm w p mb fs sv con room left)(hfn:fs.length≤200) (bg:ByteArray) :
  Calls Tryz.prog 49 #[.pointer (some ⟨p,0,none⟩),.string bg] w fun e w'=>∃ v,e = .returned v∧OwnS w.heap.size w' v (sortN (begins bg.data.toList (fs.map (·.1))))∧Chg Nil w w':=
 (callsIn_wide.1 (list_in h hfn bg)).mono fun e w' ⟨v,h1,h2,h3⟩=>⟨v,h1,h2,Chg.of_below h3 _⟩
theorem SlcRow.cut {w:World}{e:TypeId}{l:List UInt8}{a:Option Addr}{c:Nat}(h:SlcRow w e 1 (.slice a l.length c) l.length (l.map bval)) {k:Nat}(hk:k≤l.length):SlcRow w e 1 (.slice a k k) (l.take k).length ((l.take k).map bval):=by
 have hlk:(l.take k).length=k:=by rw[List.length_take];omega
 rw[hlk];refine⟨by simp;omega,?_⟩
 rcases h.2 with ⟨hv,hn⟩ | ⟨a',hv,hn⟩ | ⟨g,cap,cur,hv,hg,hnc,hcm,hcs,htake⟩
 ·obtain rfl:k=0:=by omega
  simp only[Value.slice.injEq] at hv
  rw[hv.1];exact .inl ⟨rfl,rfl⟩
 ·obtain rfl:k=0:=by omega
  simp only[Value.slice.injEq] at hv
  rw[hv.1];exact .inr (.inl ⟨a',rfl,rfl⟩)
 ·cases hv
  refine .inr (.inr ⟨g,k,cur,rfl,hg,Nat.le_refl _,by omega,by omega,?_⟩)
  rw[List.map_take,←htake,List.take_take,Nat.min_eq_left (by omega),Nat.mul_one]
theorem crashGo_snoc (fates:List UInt8):∀ (l:List Nm) (k:Nat) (x:Nm) (d:Dk),Dk.crashGo fates k (l++[x]) d=(Dk.crashGo fates k l d).crash1 fates (k+l.length) x
 | [],k,x,d=>rfl
 | y::r,k,x,d=>by
  rw[List.cons_append,Dk.crashGo,Dk.crashGo,crashGo_snoc fates r (k+1) x]
  rw[List.length_cons,show k+1+r.length=k+(r.length+1) by omega]
theorem crash1_rest (fates:List UInt8) (d:Dk) (i:Nat) (x:Nm):(d.crash1 fates i x).room=d.room∧(d.crash1 fates i x).left=d.left:=by
 unfold Dk.crash1;split<;>exact⟨rfl,rfl⟩
theorem crashGo_rest (fates:List UInt8):∀ (l:List Nm) (k:Nat) (d:Dk),(Dk.crashGo fates k l d).room=d.room∧(Dk.crashGo fates k l d).left=d.left
 | [],_,_=>⟨rfl,rfl⟩
 | y::r,k,d=>by
  rw[Dk.crashGo];have h1:=crashGo_rest fates r (k+1) (d.crash1 fates k y)
  have h2:=crash1_rest fates d k y
  exact⟨h1.1.trans h2.1,h1.2.trans h2.2⟩
theorem keep_le (f:Fl) (fates:List UInt8) (i:Nat)(h:f.safe≤f.bytes.length):keepOf f fates i≤f.bytes.length:=by
 unfold keepOf;split<;>omega
theorem Dk.Ok.crash1 {d:Dk}(h:d.Ok) (fates:List UInt8) (i:Nat) (x:Nm):(d.crash1 fates i x).Ok:=by
 unfold Dk.crash1;cases hf:d.find x with
 | none=>exact h
 | some f=>
  have hs:f.safe≤f.bytes.length:=h.safe (x,f) (lookup_some hf)
  refine h.turn hf ?_ ?_
  ·show keepOf f fates i≤(f.bytes.take (keepOf f fates i)).length
   rw[List.length_take,Nat.min_eq_left (keep_le f fates i hs)]
   exact Nat.le_refl _
  ·show d.used+(f.bytes.take (keepOf f fates i)).length≤d.room+f.bytes.length
   rw[List.length_take];have:=h.fits
   omega
theorem Dk.Ok.crashGo (fates:List UInt8):∀ (l:List Nm) (k:Nat) {d:Dk},d.Ok→(Dk.crashGo fates k l d).Ok
 | [],_,_,h=>h
 | y::r,k,_,h=>Dk.Ok.crashGo fates r (k+1) (h.crash1 fates k y)
theorem Dk.Ok.crash {d:Dk}(h:d.Ok) (fates:List UInt8):(d.crash fates).Ok:=by
 have:=Dk.Ok.crashGo fates (d.list []) 0 h
 exact⟨this.nodup,this.safe,this.fits,this.room,this.few,by show -1≤(-1:Int)∧(-1:Int)≤_;omega,this.short⟩
theorem begins_nil (l:List Nm):begins [] l=l:=by
 unfold begins;rw[List.filter_eq_self];intro x _;rfl
theorem OwnS.val {B:Nat}{w:World}{v:Value}{l:List Nm}(h:OwnS B w v l):∃ a c,v = .slice a l.length c∧∀ i (hi:i<l.length),∃ q,a=some ⟨q,0,none⟩∧B≤q∧w.cell? ⟨q,i,none⟩=some (encStr l[i]):=by
 rcases h.2 with ⟨rfl,hn⟩ | ⟨g,cap,cur,rfl,hbg,hg,hnc,hcm,hcs,htake⟩
 ·have:l=[]:=List.eq_nil_of_length_eq_zero hn
  subst this;exact⟨_,_,rfl,fun i hi=>by simp at hi⟩
 ·refine⟨_,_,rfl,fun i hi=>⟨g,rfl,hbg,?_⟩⟩
  rw[cell_of_row w g i cur _ (0,0) hg]
  have h1:(cur.toList.take (l.length*1))[i]? = some (encStr l[i]):=by rw[htake];simp[hi]
  rw[List.getElem?_take] at h1
  split at h1
  ·simpa using h1
  ·cases h1
theorem min_cast (a b c:Nat):min (a:Int) ((b:Int)+(c:Int))=((min a (b+c):Nat):Int):=by omega
theorem size_toArr (x:List UInt8):x.length=(ByteArray.mk x.toArray).size:=by
 show _=x.toArray.size
 simp
structure CrashInv (w1 wr:World) (p mb:Nat) (fs:List (Nm×Nat)) (sv0:Nat→Value) (d:Dk) (fates:List UInt8) (ns:List Nm) (i:Nat) (sv:Nat→Value) (con:Nat→Fl):Prop where
 dm:Dm wr p mb fs sv con d.room d.left
 eq:(Dk.crashGo fates 0 (ns.take i) d).fs=fs.map (fun q=>(q.1,con q.2))
 chg:Chg (Has p mb fs sv0) w1 wr
 has:∀ k,Has p mb fs sv k→Has p mb fs sv0 k
theorem CrashInv.next {w1 wr w2:World}{p mb:Nat}{fs:List (Nm×Nat)}{sv sv':Nat→Value}{con':Nat→Fl}{d:Dk}{fates:List UInt8}{ns:List Nm}{i:Nat}{x:Nm}{b:Nat}{a3:Option Addr}{c3 K:Nat}
  (h:CrashInv w1 wr p mb fs sv d fates ns i sv' con')(hw:Chg Nil wr w2)(hb:fs.lookup x=some b)(hsv:sv' b = .slice a3 (con' b).bytes.length c3)(hle:(con' b).bytes.length≤c3)(hK:keepOf (con' b) fates i=K)(hKL:K≤(con' b).bytes.length)
  (hst:Dk.crashGo fates 0 (ns.take (i+1)) d=(Dk.crashGo fates 0 (ns.take i) d).crash1 fates i x) :
  CrashInv w1 ((w2.setCell ⟨b,0,none⟩ (.slice a3 K K)).setCell ⟨b,1,none⟩ (.int .i64 (K:Nat))) p mb fs sv d fates ns (i+1) (updSv sv' b (.slice a3 K K)) (updCon con' b ⟨(con' b).bytes.take K,K⟩):=by
 have hd:=h.dm.chg hw (fun _ _ h=>h)
 have hmem:=lookup_some hb
 have hbx:Box w2 b [sv' b,.int .i64 ((con' b).safe:Nat)] 141:=hd.f _ hmem
 have hrow:SlcRow w2 5 1 (sv' b) (con' b).bytes.length ((con' b).bytes.map bval):=hd.o _ hmem
 rw[hsv] at hrow;have hlk:((con' b).bytes.take K).length=K:=by rw[List.length_take];omega
 have hrow2:=hrow.cut hKL
 have hs1:Chg (fun k=>k=b) w2 (w2.setCell ⟨b,0,none⟩ (.slice a3 K K)):=Chg.setCell (S:=fun k=>k=b) (p:=⟨b,0,none⟩) (Chg.refl _ w2) (.inl rfl) _
 have hs2:Chg (fun k=>k=b) w2 ((w2.setCell ⟨b,0,none⟩ (.slice a3 K K)).setCell ⟨b,1,none⟩ (.int .i64 (K:Nat))):=Chg.setCell (S:=fun k=>k=b) (p:=⟨b,1,none⟩) hs1 (.inl rfl) _
 have hroom:∀ k,Value.room (.slice a3 K K)=some k→Value.room (sv' b)=some k:=fun k hk=>by
  rw[hsv];cases K with
  | zero=>cases a3<;>cases hk
  | succ K=>
   cases c3 with
   | zero=>omega
   | succ c=>cases a3 with
    | none=>cases hk
    | some y=>exact hk
 have hnb:Value.room (sv' b)≠some b:=hd.p_ne.2.2 _ hmem _ hmem
 obtain⟨g1,g2,g3⟩:=hd.turn (q:=(x,b)) hmem (.slice a3 K K) ⟨(con' b).bytes.take K,K⟩ ((hbx.set 0 (.slice a3 K K)).set 1 (.int .i64 (K:Nat))) (hrow2.chg hs2 (fun k hk e=>hnb ((hroom k hk).trans (congrArg some e)))) (hs2.weak (fun k hk=>.inl (.inl hk))) (fun k hk=>.inl (hroom k hk))
 refine⟨g1,?_,(h.chg.trans hw (fun _ h=>h.elim)).trans g2 (fun k hk=>.inl (h.has k hk)),fun k hk=>?_⟩
 ·rw[hst];have hfd:(Dk.crashGo fates 0 (ns.take i) d).find x=some (con' b):=by unfold Dk.find;rw[h.eq,find_map,hb];rfl
  unfold Dk.crash1;rw[hfd];show ((Dk.crashGo fates 0 (ns.take i) d).turn x (crashed (con' b) fates i)).fs=_
  unfold crashed;rw[hK];exact turn_fs h.eq hb hd.m.1 hd.nd
 ·rcases hk with rfl | rfl | ⟨r,hr,hk⟩
  ·exact .inl rfl
  ·exact .inr (.inl rfl)
  ·refine h.has k (.inr (.inr ⟨r,hr,?_⟩))
   by_cases hne:r.2=b
   ·have e:updSv sv' b (.slice a3 K K) r.2 = .slice a3 K K:=if_pos hne
    rw[e] at hk;exact hk.imp id (fun hk=>by rw[hne];exact hroom k hk)
   ·have e:updSv sv' b (.slice a3 K K) r.2=sv' r.2:=if_neg hne
    rw[e] at hk;exact hk
theorem meas_step {n i:Nat}(h:i<n)(hw:wrap64 ((i:Int)+1)=(i:Int)+1):n-(RowKit.intOf (Value.int .i64 (wrap64 ((i:Int)+1)))).toNat<n-(RowKit.intOf (Value.int .i64 (i:Int))).toNat:=by
 rw[hw];show n-((i:Int)+1).toNat<n-(i:Int).toNat
 omega
theorem crash_any {w:World} {p:Nat} {S:Nat→Prop} {d:Dk} (h:DiskAt w p S d) (fa:Option Addr) (fates:List UInt8) (fc:Nat) (hl:fates.length≤9223372036854775807) (hb:BytesAt w fa fates) (hbn:fates≠[]→∀ x,fa=some x→¬S x.block) :
  Calls Tryz.prog 41 #[.pointer (some ⟨p,0,none⟩),.slice fa fates.length fc] w fun e w'=>e = .returned (.tuple #[])∧DiskAt w' p (Gr S w w') (d.crash fates)∧Chg S w w':=by
 obtain⟨mb,fs,sv,con,hd,hfs,hS,hok⟩:=h
 have hnames:fs.map (·.1)=d.names:=by unfold Dk.names;rw[hfs,List.map_map];rfl
 have hf1:fs.length≤200:=by have:=hok.few;rw[hfs,List.length_map] at this;exact this
 have HL:=Lib.hid (list_any hd hf1 ⟨#[]⟩)
 have hlist:sortN (begins (ByteArray.mk #[]).data.toList (fs.map (·.1)))=d.list []:=by rw[hnames];rfl
 rw[hlist] at HL;have HFS:=Lib.hid hfs
 have HS:=Lib.hid hS
 have HOK:=Lib.hid hok
 have HD:=Lib.hid hd
 have HBY:=Lib.hid hb
 have HBN:=Lib.hid (fun hne x hx (hk:Has p mb fs sv x.block)=>hbn hne x hx (hS _ hk))
 clear hlist hfs hS hok hd hb hbn hf1 hnames;go_enter Tryz.func41,Tryz.ntmps41
 go_wp2_with (go_at_call 49;refine HL.out.mono ?_)
 rintro e w1 ⟨v,rfl,hown,hc1⟩
 obtain⟨a,c,rfl,hnm⟩:=hown.val
 have HNM:=Lib.hid hnm
 have HC1:=Lib.hid hc1
 have HI0:Hid (CrashInv w1 w1 p mb fs sv d fates (d.list []) 0 sv con):=⟨HD.out.chg hc1 (fun _ _ h=>h),by rw[List.take_zero];exact HFS.out,Chg.refl _ _,fun _ h=>h⟩
 have HW1:Hid (∀ k,Has p mb fs sv k→k<w.heap.size):=fun k hk=>HD.out.lt k hk
 have HMEM:Hid (∀ x∈d.list [],∃ b,fs.lookup x=some b):=fun x hx=>by
  have h1:x∈begins [] d.names:=(List.mergeSort_perm _ _).mem_iff.1 hx
  rw[begins_nil] at h1;have h2:d.names=fs.map (·.1):=by unfold Dk.names;rw[HFS.out,List.map_map];rfl
  rw[h2] at h1;cases hlk:fs.lookup x with
  | some b=>exact⟨b,rfl⟩
  | none=>exact absurd h1 (lookup_none.1 hlk)
 have HSH:Hid (∀ x∈d.list [],x.length≤40):=fun x hx=>by
  have h1:x∈begins [] d.names:=(List.mergeSort_perm _ _).mem_iff.1 hx
  rw[begins_nil] at h1;exact HOK.out.short x h1
 have HLN:Hid ((d.list []).length≤200):=by
  have h1:(d.list []).length=(begins [] d.names).length:=(List.mergeSort_perm _ _).length_eq
  rw[begins_nil] at h1;have:=HOK.out.few
  have h2:d.names.length=d.fs.length:=List.length_map _
  unfold Hid;omega
 have HOKG:Hid (∀ i,(Dk.crashGo fates 0 ((d.list []).take i) d).Ok):=fun i=>Dk.Ok.crashGo fates _ 0 HOK.out
 have HFIN:Hid (d.crash fates = { Dk.crashGo fates 0 (d.list []) d with left:=-1 }):=rfl
 have HSTEP:Hid (∀ i (hi:i<(d.list []).length),Dk.crashGo fates 0 ((d.list []).take (i+1)) d=(Dk.crashGo fates 0 ((d.list []).take i) d).crash1 fates i (d.list [])[i]):=fun i hi=>by
  rw[List.take_succ_eq_append_getElem hi,crashGo_snoc]
  rw[List.length_take,Nat.min_eq_left (by omega),Nat.zero_add]
 generalize d.list []=ns at *;clear hnm hown hc1;go_wp2_with fail;go_loopw [11] (fun ii wr=>∃ (wq:World) (i:Nat) (sv':Nat→Value) (con':Nat→Fl),wq=wr∧i≤ns.length∧ii = .int .i64 i∧CrashInv w1 wr p mb fs sv d fates ns i sv' con') (fun ii _=>ns.length-(RowKit.intOf ii).toNat)
 case atStart=>exact⟨_,0,sv,con,rfl,by omega,rfl,HI0.out⟩
 case round=>
  obtain⟨wr,i,sv',con',rfl,hi,rfl,hinv⟩:=hrel
  by_cases hil:i<ns.length
  ·have hii:(i:Int)<(ns.length:Int):=by omega
   have hi64:wrap64 ((i:Int)+1)=(i:Int)+1:=by have:=HLN.out;unfold wrap64;omega
   obtain⟨q,rfl,hq,hcell⟩:=HNM.out i hil
   have hxm:ns[i]∈ns:=List.getElem_mem hil
   obtain⟨b,hb⟩:=HMEM.out _ hxm
   have hxl:=HSH.out _ hxm
   have HST:=Lib.hid (HSTEP.out i hil)
   have HGI:=Lib.hid (HOKG.out i)
   have HQ:=Lib.hid hq
   obtain⟨x,hx⟩:∃ x,ns[i]=x:=⟨_,rfl⟩
   rw[hx] at hcell hb hxl HST
   clear hx hxm hq;have hcw:=hinv.chg.cell hcell (fun h=>by have:=HW1.out q h;have:=HQ.out;omega)
   simp only[encStr] at hcw
   obtain⟨D1,hD1⟩:∃ D1,Dk.crashGo fates 0 (ns.take i) d=D1:=⟨_,rfl⟩
   have heq:=hinv.eq
   rw[hD1] at HST HGI heq
   have hmem:=lookup_some hb
   have hrow:SlcRow wr 5 1 (sv' b) (con' b).bytes.length ((con' b).bytes.map bval):=hinv.dm.o _ hmem
   have hbx:Box wr b [sv' b,.int .i64 ((con' b).safe:Nat)] 141:=hinv.dm.f _ hmem
   have hfd:D1.find x=some (con' b):=by unfold Dk.find;rw[heq,find_map,hb];rfl
   have hsafe:(con' b).safe≤(con' b).bytes.length:=HGI.out.safe (x,con' b) (lookup_some hfd)
   have hfit:(con' b).bytes.length≤1048576:=by
    have h1:=usedOf_mem (con:=con') (a:=fs.map (·.2)) (List.mem_map.2 ⟨_,hmem,rfl⟩)
    have h1':(con' b).bytes.length≤usedOf con' (fs.map (·.2)):=h1
    have h2:=HGI.out.fits
    have h4:=HGI.out.room
    unfold Dk.used at h2;rw[heq,used_eq] at h2;omega
   have c0:=hinv.dm.c.cell (j:=0) rfl
   have hlk:=hinv.dm.m.look (s:=⟨x.toArray⟩) (by have:(ByteArray.mk x.toArray).size=x.length:=(size_toArr x).symm;unfold maxLen;omega)
   have hxe:(ByteArray.mk x.toArray).data.toList=x:=rfl
   rw[hxe,hb] at hlk;simp only[ptrOf,Option.map_some] at hlk
   have y0:=hbx.cell (j:=0) rfl
   have y1:=hbx.cell (j:=1) rfl
   have z0:=hbx.free 0
   have z1:=hbx.free 1
   obtain⟨a3,c3,hsv,hby3,hle3,hcm3,hrm3⟩:=hrow.bytes
   rw[hsv] at y0;have HIN:=Lib.hid hinv
   have HROW:=Lib.hid hrow
   have HBX:=Lib.hid hbx
   have HSV:=Lib.hid hsv
   have HFD:=Lib.hid hfd
   have HMB:=Lib.hid hmem
   have HBE:=Lib.hid hb
   have HEQ:=Lib.hid heq
   have HD1:=Lib.hid hD1
   clear hcell hinv hmem hrow hbx hfd hsv hb heq hD1 hby3 hrm3 hxe;by_cases hfe:fates=[]
   ·have hfl:¬(0:Int)<(fates.length:Int):=by rw[hfe];simp
    have HK:Hid (keepOf (con' b) fates i=(con' b).safe):=if_pos hfe
    clear hfe;obtain⟨K,hK⟩:∃ K,(con' b).safe=K:=⟨_,rfl⟩
    have HKS:=Lib.hid hK
    rw[hK] at y1 HK
    have hKL:K≤(con' b).bytes.length:=by omega
    clear hK;go_upto_region 7 with fail;have hw2:=Chg.refl Nil wr
    clear c0 hlk y0 y1 z0 z1 hcw;have HW2:=Lib.hid hw2
    have HD2:=Lib.hid (HIN.out.dm.chg hw2 (fun _ _ h=>h))
    have HC2:=Lib.hid (HIN.out.chg.trans hw2 (fun _ h=>h.elim))
    have HBX2:=Lib.hid (HBX.out.chg hw2 (fun h=>h))
    have HROW2:=Lib.hid (HROW.out.chg hw2 (fun _ _ h=>h))
    have y0:=HBX2.out.cell (j:=0) rfl
    rw[HSV.out] at y0;have y1:=HBX2.out.cell (j:=1) rfl
    have z0:=HBX2.out.free 0
    have z1:=HBX2.out.free 1
    have hk2:K≤c3:=by omega
    have hk0:0≤K:=Nat.zero_le _
    clear hw2;go_wp2_with fail;go_roundw
    case rel=>
     have hln:=HLN.out
     exact⟨_,i+1,_,_,rfl,by omega,by go_num,HIN.out.next (Chg.refl Nil wr) HBE.out HSV.out (by omega) (HK.out) hKL (by rw[HST.out,HD1.out])⟩
    case measure=>exact meas_step hil hi64
   ·have hfl:(0:Int)<(fates.length:Int):=by
     have:=List.length_pos_iff.2 hfe
     omega
    have hbyr:=bytes_keep HIN.out.chg (HC1.out.bytesAt HBY.out (fun _ _ h=>h)) HBN.out
    obtain⟨m,hm⟩:∃ m,i % fates.length=m:=⟨_,rfl⟩
    have hml:m<fates.length:=by rw[←hm];exact Nat.mod_lt _ (by omega)
    obtain⟨g,off,hfa,hcf⟩:=hbyr m hml
    have hrem:(i:Int).tmod (fates.length:Int)=(m:Int):=by rw[←hm];exact (Int.ofNat_tmod i fates.length).symm
    obtain⟨ft,hft⟩:∃ ft,fates[m]=ft:=⟨_,rfl⟩
    rw[hft] at hcf;simp only[bval] at hcf
    have hf8:ft.toNat<256:=ft.toNat_lt
    obtain⟨fn,hfn⟩:∃ fn,ft.toNat=fn:=⟨_,rfl⟩
    rw[hfn] at hcf hf8
    have hadd:wrap64 (((con' b).safe:Int)+(fn:Int))=((con' b).safe:Int)+(fn:Int):=by unfold wrap64;omega
    have HK:Hid (keepOf (con' b) fates i=min (con' b).bytes.length ((con' b).safe+fn)):=by
     unfold Hid keepOf;rw[if_neg hfe,hm,List.getD_eq_getElem?_getD,List.getElem?_eq_getElem hml,hft]
     show min _ ((con' b).safe+ft.toNat)=_
     rw[hfn]
    have hkm:min ((con' b).bytes.length:Int) (((con' b).safe:Int)+(fn:Int))=((min (con' b).bytes.length ((con' b).safe+fn):Nat):Int):=min_cast _ _ _
    have hm0:¬(fates.length:Int)=0:=by omega
    have hm1:(m:Int)<(fates.length:Int):=by omega
    subst hfa;obtain⟨K,hK⟩:∃ K,min (con' b).bytes.length ((con' b).safe+fn)=K:=⟨_,rfl⟩
    rw[hK] at hkm HK
    have hKL:K≤(con' b).bytes.length:=by rw[←hK];exact Nat.min_le_left _ _
    clear hm hft hfn hbyr hK;go_upto_region 6 with fail;have HY0:=Lib.hid y0
    have HY1:=Lib.hid y1
    have HCF:=Lib.hid hcf
    clear c0 hlk y0 y1 z0 z1 hcf hcw;refine wp_region_mono _ (Chg Nil) (by kernel_rfl) (fun _ _ _ h k=>h.trans k (fun _ h=>h.elim)) [[],[0],[1],[2],[3],[],[5],[6],[7],[],[],[],[11],[10,12],[9,13],[14],[15],[8,16],[4,17],[18]] rfl (by kernel_rfl) (Chg.refl _ _).drew ?_
    iterate 3 ((with_reducible apply Walk.eq);case h=>(intro w2 hw2 N hN;simp only[depM];go_simp;(try go_bits);with_reducible exact hN _ (Chg.refl _ _)))
    (with_reducible apply Walk.eq);case h=>
     intro w3 hw3 N hN;have hq3:=hw3.cell HY0.out (fun h=>h)
     simp only[depM]
     go_simp;exact hN _ (Chg.refl _ _)
    iterate 4 ((with_reducible apply Walk.eq);case h=>(intro w2 hw2 N hN;simp only[depM];go_simp;(try go_bits);with_reducible exact hN _ (Chg.refl _ _)))
    (with_reducible apply Walk.eq);case h=>
     intro w3 hw3 N hN;have hq3:=hw3.cell HY1.out (fun h=>h)
     simp only[depM]
     go_simp;exact hN _ (Chg.refl _ _)
    iterate 4 ((with_reducible apply Walk.eq);case h=>(intro w2 hw2 N hN;simp only[depM];go_simp;(try go_bits);with_reducible exact hN _ (Chg.refl _ _)))
    (with_reducible apply Walk.eq);case h=>
     intro w3 hw3 N hN;simp only[depM]
     go_simp;exact hN _ (Chg.refl _ _)
    (with_reducible apply Walk.eq);case h=>
     intro w3 hw3 N hN;simp only[depM]
     go_simp;exact hN _ (Chg.refl _ _)
    (with_reducible apply Walk.eq);case h=>
     intro w3 hw3 N hN;have hq3:=hw3.cell HCF.out (fun h=>h)
     simp only[depM]
     go_simp;exact hN _ (Chg.refl _ _)
    iterate 4 ((with_reducible apply Walk.eq);case h=>(intro w2 hw2 N hN;simp only[depM];go_simp;(try go_bits);with_reducible exact hN _ (Chg.refl _ _)))
    intro w2 hw2;simp only[List.nil_append,List.cons_append,Fin]
    go_simp;clear hfe HY0 HY1 HCF hadd hkm hm0 hm1 hrem hml hf8;have HW2:=Lib.hid hw2
    have HD2:=Lib.hid (HIN.out.dm.chg hw2 (fun _ _ h=>h))
    have HC2:=Lib.hid (HIN.out.chg.trans hw2 (fun _ h=>h.elim))
    have HBX2:=Lib.hid (HBX.out.chg hw2 (fun h=>h))
    have HROW2:=Lib.hid (HROW.out.chg hw2 (fun _ _ h=>h))
    have y0:=HBX2.out.cell (j:=0) rfl
    rw[HSV.out] at y0;have y1:=HBX2.out.cell (j:=1) rfl
    have z0:=HBX2.out.free 0
    have z1:=HBX2.out.free 1
    have hk2:K≤c3:=by omega
    have hk0:0≤K:=Nat.zero_le _
    clear hw2;go_wp2_with fail;go_roundw
    case rel=>
     have hln:=HLN.out
     exact⟨_,i+1,_,_,rfl,by omega,by go_num,HIN.out.next HW2.out HBE.out HSV.out (by omega) HK.out hKL (by rw[HST.out,HD1.out])⟩
    case measure=>exact meas_step hil hi64
  ·have hii:¬(i:Int)<(ns.length:Int):=by omega
   obtain rfl:i=ns.length:=by omega
   have c0:=hinv.dm.c.cell (j:=2) rfl
   have z2:=hinv.dm.c.free 2
   have HIN:=Lib.hid hinv
   clear hinv;go_wp2_with fail;go_end0
   have heq:=HIN.out.eq
   rw[List.take_length] at heq;have hr:=crashGo_rest fates ns 0 d
   have hsz:=HC1.out.size
   obtain⟨t1,t2⟩:=HIN.out.dm.turned (-1)
   have hchw:Chg (Has p mb fs sv) w (wr.setCell ⟨p,2,none⟩ (.int .i64 (-1))):=((HC1.out.weak (S':=Has p mb fs sv) (fun _ h=>h.elim)).trans HIN.out.chg (fun k hk=>.inl hk)).trans t2 (fun k hk=>.inl (.inl hk))
   refine⟨rfl,⟨mb,fs,sv',con',?_,?_,fun k hk=>.inl (HS.out k (HIN.out.has k hk)),HOK.out.crash fates⟩,hchw.weak (fun k hk=>.inl (HS.out k hk))⟩
   ·rw[HFIN.out];show Dm _ p mb fs sv' con' (Dk.crashGo fates 0 ns d).room (-1)
    rw[hr.1];exact t1
   ·rw[HFIN.out];exact heq
end Go.Proofs.YtdjmifaidgbbaaaGreatDoor
