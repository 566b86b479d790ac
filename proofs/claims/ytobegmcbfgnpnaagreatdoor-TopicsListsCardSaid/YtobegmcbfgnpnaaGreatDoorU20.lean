/-
  The disk as one thing: DiskAt; Make.
-/
import Derived.Test.YtobegmcbfgnpnaaGreatDoorU19
set_option linter.unusedVariables false
set_option linter.unusedSimpArgs false
set_option maxHeartbeats 0
set_option maxRecDepth 200000
namespace Go.Proofs.YtobegmcbfgnpnaaGreatDoor
open Go.RowKit Go.Maps
def Gr (S:Nat→Prop) (w w':World):Nat→Prop:=fun k=>S k∨(w.heap.size≤k∧k<w'.heap.size)
def DiskAt (w:World) (p:Nat) (S:Nat→Prop) (d:Dk):Prop:=
 ∃ mb fs sv con,Dm w p mb fs sv con d.room d.left∧d.fs=fs.map (fun q=>(q.1,con q.2))∧(∀ k,Has p mb fs sv k→S k)∧d.Ok
theorem DiskAt.ok {w:World}{p:Nat}{S:Nat→Prop}{d:Dk}(h:DiskAt w p S d):d.Ok:=by
 obtain⟨mb,fs,sv,con,_,_,_,ho⟩:=h
 exact ho
theorem DiskAt.chg {S T:Nat→Prop}{w w':World}{p:Nat}{d:Dk}(h:DiskAt w p S d)(hc:Chg T w w')(hn:∀ k,S k→¬T k):DiskAt w' p S d:=by
 obtain⟨mb,fs,sv,con,hd,he,hs,ho⟩:=h
 exact⟨mb,fs,sv,con,hd.chg hc (fun k hk=>hn k (hs k hk)),he,hs,ho⟩
theorem find_map (con:Nat→Fl) (x:Nm):∀ fs:List (Nm×Nat),(fs.map fun q=>(q.1,con q.2)).lookup x=(fs.lookup x).map con
 | []=>rfl
 | (a,b)::r=>by
  rw[List.map_cons,List.lookup_cons,List.lookup_cons,find_map con x r]
  cases x==a<;>rfl
theorem used_eq (con:Nat→Fl) (fs:List (Nm×Nat)):((fs.map fun q=>(q.1,con q.2)).map fun p=>p.2.bytes.length).sum=usedOf con (fs.map (·.2)):=by
 unfold usedOf;rw[List.map_map,List.map_map];rfl
theorem done_mk {w w':World}{p mb:Nat}{fs fs':List (Nm×Nat)}{sv sv':Nat→Value}{con':Nat→Fl}{S:Nat→Prop}{d':Dk}{e:Ending}{n:Nat}
  (hs:∀ k,Has p mb fs sv k→S k)(he:e = .returned (errD n))(hd:Dm w' p mb fs' sv' con' d'.room d'.left)(hf:d'.fs=fs'.map (fun q=>(q.1,con' q.2)))(hc:Chg (Has p mb fs sv) w w')
  (hn:∀ k,Has p mb fs' sv' k→Has p mb fs sv k∨w.heap.size≤k)(ho:d'.Ok) {r:Nat×Dk}(hr:r=(n,d')) :
  e = .returned (errD r.1)∧DiskAt w' p (Gr S w w') r.2∧Chg S w w':=by
 subst hr;refine⟨he,⟨mb,fs',sv',con',hd,hf,fun k hk=>?_,ho⟩,hc.weak (fun k hk=>.inl (hs k hk))⟩
 rcases hn k hk with h | h
 ·exact .inl (hs k h)
 ·exact .inr ⟨h,hd.lt k hk⟩
theorem chg_p {w w':World}{p mb:Nat}{fs:List (Nm×Nat)}{sv:Nat→Value}(h:Chg (fun k=>k=p) w w'):Chg (Has p mb fs sv) w w':=h.weak (fun k hk=>.inl (.inl hk))
theorem stepL_of {l:Int}(h:didB l=false):stepL l=l:=by
 unfold didB at h;have:¬l≠0:=of_decide_eq_false h
 have h0:l=0:=by omega
 rw[h0];rfl
theorem put_new {d:Dk}{fs:List (Nm×Nat)}{con:Nat→Fl}{x:Nm}{b:Nat}(hf:d.fs=fs.map (fun q=>(q.1,con q.2)))(hx:fs.lookup x=none)(hb:∀ q∈fs,q.2<b) :
  (d.step.put x ⟨[],0⟩).fs=(fs++[(x,b)]).map (fun q=>(q.1,newCon con b q.2)):=by
 show (d.fs.filter fun p=>decide (p.1≠x))++[(x,⟨[],0⟩)]=_
 have hx2:d.fs.lookup x=none:=by rw[hf,find_map,hx];rfl
 rw[filter_notin hx2,hf,List.map_append]
 congr 1
 ·refine List.map_congr_left fun q hq=>?_
  have:newCon con b q.2=con q.2:=if_neg (by have:=hb q hq;omega)
  rw[this]
 ·have:newCon con b b=⟨[],0⟩:=if_pos rfl
  simp[this]
theorem make_any {w:World} {p:Nat} {S:Nat→Prop} {d:Dk} (h:DiskAt w p S d) (s:ByteArray) (hs:s.size≤4611686018427387904) :
  Calls Tryz.prog 7 #[.pointer (some ⟨p,0,none⟩),.string s] w fun e w'=>e = .returned (errD (d.make s.data.toList).1)∧DiskAt w' p (Gr S w w') (d.make s.data.toList).2∧Chg S w w':=by
 obtain⟨mb,fs,sv,con,hd,hfs,hS,hok⟩:=h
 have HOK2:=Lib.hid (hok.make s.data.toList)
 have HOKS:=Lib.hid hok.step
 have HW:=Lib.hid (works_any hd hok.left)
 have hfind:d.find s.data.toList=(fs.lookup s.data.toList).map con:=by unfold Dk.find;rw[hfs];exact find_map con _ fs
 have hlen:d.fs.length=fs.length:=by rw[hfs,List.length_map]
 have hfew:=hok.few
 rw[hlen] at hfew;have HFEW:=Lib.hid hfew
 have HFS:=Lib.hid hfs
 have HS:=Lib.hid hS
 have HNM:=Lib.hid (fun w=>disk_any s w (by omega))
 have HSS:=Lib.hid hs
 obtain⟨R,hR⟩:∃ R,d.make s.data.toList=R:=⟨_,rfl⟩
 have hR2:=hR
 unfold Dk.make at hR2;rw[hfind,hlen,show d.does=didB d.left from rfl,show dkName s.data.toList=nameOk 40 cutDisk s.data.toList from rfl] at hR2
 rw[hR];rw[hR] at HOK2;have HR:=Lib.hid hR2
 clear hR hR2 hd hok hfind hlen hfs hS hs hfew;go_enter Tryz.func7,Tryz.ntmps7
 go_wp2_with (go_at_call 54;refine HW.out.mono ?_)
 rintro e w1 ⟨rfl,hd1,hc1⟩
 have HC1:=Lib.hid hc1
 have c0:=hd1.c.cell (j:=0) rfl
 have HD1:=Lib.hid hd1
 clear hd1 hc1 HW;obtain⟨x,hx⟩:∃ x,didB d.left=x:=⟨_,rfl⟩
 rw[hx] at HR;rw[hx];have HX:=Lib.hid hx
 clear hx;cases x with
 | false=>
  have hR:=HR.out
  rw[if_pos rfl] at hR
  have HR2:=Lib.hid hR
  clear hR HR c0;go_wp2_with fail;go_ret;have hd1:=HD1.out
  rw[stepL_of HX.out] at hd1
  exact done_mk (n:=14) (d':=d) HS.out rfl hd1 HFS.out (chg_p HC1.out) (fun k hk=>.inl hk) (by have:=HOK2.out;rw[←HR2.out] at this;exact this) HR2.out.symm
 | true=>
  have hR:=HR.out
  rw[if_neg (by simp)] at hR
  have HR1:=Lib.hid hR
  clear hR HR;go_wp2_with (go_at_call 55;refine (HNM.out _).mono ?_)
  rintro e w2 ⟨rfl,hb2⟩
  have hc2:=Chg.of_below hb2 Nil
  have hd2:=HD1.out.chg hc2 (fun _ _ h=>h)
  have HD2:=Lib.hid hd2
  have HC2:=Lib.hid (HC1.out.trans hc2 (fun _ h=>h.elim))
  have c02:=hd2.c.cell (j:=0) rfl
  have hlk:=hd2.m.look (s:=s) (by have:=HSS.out;unfold maxLen;omega)
  have hln:=fun ty=>hd2.m.len ty
  have HLK:=Lib.hid hlk
  have HLN:=Lib.hid hln
  clear hb2 hc2 hd2 HD1 HC1 c0 hlk hln;obtain⟨x,hx⟩:∃ x,nameOk 40 cutDisk s.data.toList=x:=⟨_,rfl⟩
  rw[hx] at HR1;rw[hx];have HX2:=Lib.hid hx
  clear hx;cases x with
  | false=>
   have hR:=HR1.out
   rw[if_pos rfl] at hR
   have HR2:=Lib.hid hR
   clear hR HR1 c02;go_wp2_with fail;go_ret;exact done_mk (n:=5) (d':=d.step) HS.out rfl HD2.out HFS.out (chg_p HC2.out) (fun k hk=>.inl hk) HOKS.out HR2.out.symm
  | true=>
   have hR:=HR1.out
   rw[if_neg (by simp)] at hR
   have HR1b:=Lib.hid hR
   clear hR HR1;obtain⟨o,ho⟩:∃ o,fs.lookup s.data.toList=o:=⟨_,rfl⟩
   rw[ho] at HLK HR1b
   have HO:=Lib.hid ho
   have hlk:=HLK.out
   clear ho HLK;cases o with
   | some b=>
    have hR:=HR1b.out
    rw[if_pos (by simp)] at hR
    have HR2:=Lib.hid hR
    clear hR HR1b;simp only[ptrOf,Option.map_some] at hlk
    go_wp2_with fail;go_ret;exact done_mk (n:=9) (d':=d.step) HS.out rfl HD2.out HFS.out (chg_p HC2.out) (fun k hk=>.inl hk) HOKS.out HR2.out.symm
   | none=>
    have hR:=HR1b.out
    rw[if_neg (by simp)] at hR
    have HR3:=Lib.hid hR
    clear hR HR1b;simp only[ptrOf,Option.map_none] at hlk
    have hln:=HLN.out
    clear HLN;by_cases h200:fs.length=200
    ·have hR:=HR3.out
     rw[if_pos h200] at hR
     have HR2:=Lib.hid hR
     have hq:((fs.length:Int)==200)=true:=by rw[h200];rfl
     clear hR HR3;go_wp2_with fail;go_ret;exact done_mk (n:=4) (d':=d.step) HS.out rfl HD2.out HFS.out (chg_p HC2.out) (fun k hk=>.inl hk) HOKS.out HR2.out.symm
    ·have hR:=HR3.out
     rw[if_neg h200] at hR
     have HR2:=Lib.hid hR
     have hq:((fs.length:Int)==200)=false:=beq_eq_false_iff_ne.2 (by omega)
     have HN200:=Lib.hid h200
     clear hR HR3 h200;have hmap:=(HD2.out.m.chg ((Chg.refl Nil w2).alloc (.cells #[.slice none 0 0,.int .i64 0] 110)) (fun h=>h)).store (by have:=HFEW.out;unfold maxLen;omega) (s:=s) (by have:=HSS.out;unfold maxLen;omega) w2.heap.size
     obtain⟨w3,hrun,hm3,hc3⟩:=hmap
     rw[filter_notin HO.out] at hm3
     have HM3:=Lib.hid hm3
     have HC3:=Lib.hid hc3
     clear hm3 hc3;go_wp2_with fail;go_ret;obtain⟨g1,g2,g3⟩:=HD2.out.made HO.out rfl HM3.out HC3.out
     have hsz:=HC2.out.size
     refine done_mk (n:=0) (d':=d.step.put s.data.toList ⟨[],0⟩) HS.out rfl g1 ?_ ((chg_p HC2.out).trans g2 (fun _ h=>.inl h)) (fun k hk=>(g3 k hk).imp id (fun h=>by omega)) ?_ HR2.out.symm
     ·exact put_new HFS.out HO.out (fun q hq=>(HD2.out.lt q.2 (.inr (.inr ⟨q,hq,.inl rfl⟩))))
     ·have:=HOK2.out
      rw[←HR2.out] at this;exact this
end Go.Proofs.YtobegmcbfgnpnaaGreatDoor
