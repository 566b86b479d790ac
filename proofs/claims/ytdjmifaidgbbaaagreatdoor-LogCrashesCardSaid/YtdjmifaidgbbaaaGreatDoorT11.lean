/-
  Size, Fail, Cut, Remove, Rename.
-/
import Derived.Test.YtdjmifaidgbbaaaGreatDoorT10
import Derived.Test.YtdjmifaidgbbaaaGreatDoorChecked
set_option linter.unusedVariables false
set_option linter.unusedSimpArgs false
set_option maxHeartbeats 0
set_option maxRecDepth 200000
namespace Go.Proofs.YtdjmifaidgbbaaaGreatDoor
open Go.RowKit Go.Maps
theorem size_any {w:World}{p:Nat}{S:Nat→Prop}{d:Dk}(h:DiskAt w p S d) (s:ByteArray)(hs:s.size≤4611686018427387904) :
  Calls Tryz.prog 89 #[.pointer (some ⟨p,0,none⟩),.string s] w fun e w'=>e = .returned (.int .i64 (d.size s.data.toList))∧w=w':=by
 obtain⟨mb,fs,sv,con,hd,hfs,hS,hok⟩:=h
 have hsz:d.size s.data.toList=match fs.lookup s.data.toList with | some b=>((con b).bytes.length:Int) | none=>-1:=by
  unfold Dk.size Dk.find;rw[hfs,find_map];cases fs.lookup s.data.toList<;>rfl
 have c0:=hd.c.cell (j:=0) rfl
 have hlk:=hd.m.look (s:=s) (by unfold maxLen;omega)
 rw[hsz];clear hsz;cases ho:fs.lookup s.data.toList with
 | none=>
  rw[ho] at hlk;simp only[ptrOf,Option.map_none] at hlk
  clear hd hfs hS hok ho;go_enter Tryz.func89,Tryz.ntmps89
  go_wp2_with fail;go_ret;exact⟨rfl,rfl⟩
 | some b=>
  rw[ho] at hlk;simp only[ptrOf,Option.map_some] at hlk
  have hmem:=lookup_some ho
  have hrow:SlcRow w 5 1 (sv b) (con b).bytes.length ((con b).bytes.map bval):=hd.o _ hmem
  have hbx:Box w b [sv b,.int .i64 ((con b).safe:Nat)] 141:=hd.f _ hmem
  obtain⟨a,c,hsv,_,_⟩:=hrow.form
  have y0:=hbx.cell (j:=0) rfl
  rw[hsv] at y0;clear hd hfs hS hok ho hmem hrow hbx hsv;go_enter Tryz.func89,Tryz.ntmps89
  go_wp2_with fail;go_ret;exact⟨rfl,rfl⟩
theorem inj_snd:∀ {fs:List (Nm×Nat)},(fs.map (·.2)).Nodup→∀ {q r:Nm×Nat},q∈fs→r∈fs→q.2=r.2→q=r
 | a::l,hn,q,r,hq,hr,e=>by
  rw[List.map_cons,List.nodup_cons] at hn;rcases List.mem_cons.1 hq with h1 | h1<;>rcases List.mem_cons.1 hr with h2 | h2
  ·rw[h1,h2]
  ·exact absurd (List.mem_map.2 ⟨r,h2,by rw[←e,h1]⟩) hn.1
  ·exact absurd (List.mem_map.2 ⟨q,h1,by rw[e,h2]⟩) hn.1
  ·exact inj_snd hn.2 h1 h2 e
theorem Dm.drop {w w2:World}{p mb:Nat}{fs:List (Nm×Nat)}{sv:Nat→Value}{con:Nat→Fl}{room:Nat}{left:Int}(h:Dm w p mb fs sv con room left) {x:Nm}(hm:MapAt w2 mb (fs.filter fun p=>decide (p.1≠x)))(hc:Chg (fun k=>k=mb) w w2) :
  Dm w2 p mb (fs.filter fun p=>decide (p.1≠x)) sv con room left:=by
 obtain⟨h1,h2,h3⟩:=h.p_ne
 have hin:∀ q∈(fs.filter fun p=>decide (p.1≠x)),q∈fs:=fun q hq=>(List.mem_filter.1 hq).1
 exact⟨h.c.chg hc (fun e=>h1 e.symm),hm,fun q hq=>(h.f q (hin q hq)).chg hc (h2 q (hin q hq)).2.2.1,fun q hq=>(h.o q (hin q hq)).chg hc (fun k hk e=>(h2 q (hin q hq)).2.2.2 (by rw[hk,e])),
  h.nd.sublist (List.Sublist.map _ List.filter_sublist),fun q hq r hr=>h.ap q (hin q hq) r (hin r hr)⟩
theorem filter_mapped (con:Nat→Fl) (x:Nm) (fs:List (Nm×Nat)):((fs.map fun q=>(q.1,con q.2)).filter fun p=>decide (p.1≠x))=(fs.filter fun p=>decide (p.1≠x)).map (fun q=>(q.1,con q.2)):=by
 rw[List.filter_map];rfl
theorem Dk.Ok.del {d:Dk}(h:d.Ok) (x:Nm):(d.del x).Ok:=by
 refine⟨filter_fst_nodup h.nodup x,fun p hp=>h.safe p (List.mem_filter.1 hp).1,Nat.le_trans (used_filter d x) h.fits,h.room,Nat.le_trans (List.length_filter_le _ _) h.few,h.left,fun y hy=>?_⟩
 obtain⟨q,hq,rfl⟩:=List.mem_map.1 hy
 exact h.short _ (List.mem_map.2 ⟨q,(List.mem_filter.1 hq).1,rfl⟩)
theorem used_del_le:∀ (fs:List (Nm×Fl)) (x:Nm) (f:Fl),fs.lookup x=some f→((fs.filter fun p=>decide (p.1≠x)).map fun p=>p.2.bytes.length).sum+f.bytes.length≤(fs.map fun p=>p.2.bytes.length).sum
 | [],_,_,h=>by simp at h
 | (a,g)::r,x,f,h=>by
  rw[List.lookup_cons] at h;by_cases hax:x=a
  ·subst hax;simp at h
   subst h;rw[List.filter_cons_of_neg (by simp)]
   have:((r.filter fun p=>decide (p.1≠x)).map fun p=>p.2.bytes.length).sum≤(r.map fun p=>p.2.bytes.length).sum:=sum_sub (List.Sublist.map _ List.filter_sublist)
   simp only[List.map_cons,List.sum_cons]
   omega
  ·have hb:(x==a)=false:=beq_eq_false_iff_ne.2 hax
   simp only[hb,Bool.false_eq_true,if_false] at h
   have ih:=used_del_le r x f h
   rw[List.filter_cons_of_pos (by simpa using fun e=>hax e.symm)]
   simp only[List.map_cons,List.sum_cons]
   omega
theorem Dk.Ok.renamed {d:Dk}(h:d.Ok) {x y:Nm}{f:Fl}(hf:d.find x=some f)(hy:dkName y=true):((d.del x).put y f).Ok:=by
 have hd:=h.del x
 have hs:f.safe≤f.bytes.length:=h.safe (x,f) (lookup_some hf)
 refine⟨put_fst_nodup hd.nodup y f,fun p hp=>?_,?_,h.room,?_,h.left,fun z hz=>?_⟩
 ·rcases List.mem_append.1 hp with hp | hp
  ·exact hd.safe p (List.mem_filter.1 hp).1
  ·simp at hp;subst hp;exact hs
 ·have h1:=used_del_le d.fs x f hf
  have h2:=h.fits
  have h3:(((d.del x).fs.filter fun p=>decide (p.1≠y)).map fun p=>p.2.bytes.length).sum≤((d.del x).fs.map fun p=>p.2.bytes.length).sum:=sum_sub (List.Sublist.map _ List.filter_sublist)
  have h4:((d.del x).fs.map fun p=>p.2.bytes.length).sum+f.bytes.length≤d.used:=h1
  show ((((d.del x).fs.filter fun p=>decide (p.1≠y))++[(y,f)]).map fun p=>p.2.bytes.length).sum≤d.room
  rw[List.map_append,List.sum_append];simp only[List.map_cons,List.map_nil,List.sum_cons,List.sum_nil]
  omega
 ·show (((d.del x).fs.filter fun p=>decide (p.1≠y))++[(y,f)]).length≤200
  have h1:=filter_length x h.nodup
  have h2:(d.fs.lookup x).isSome=true:=by
   have:d.fs.lookup x=some f:=hf
   rw[this];rfl
  rw[if_pos h2] at h1
  have h3:((d.del x).fs.filter fun p=>decide (p.1≠y)).length≤(d.del x).fs.length:=List.length_filter_le _ _
  have h4:(d.del x).fs.length=(d.fs.filter fun p=>decide (p.1≠x)).length:=rfl
  rw[List.length_append,List.length_singleton];have:=h.few
  omega
 ·obtain⟨q,hq,rfl⟩:=List.mem_map.1 hz
  rcases List.mem_append.1 hq with hq | hq
  ·exact hd.short _ (List.mem_map.2 ⟨q,(List.mem_filter.1 hq).1,rfl⟩)
  ·simp at hq;subst hq;exact dkName_len hy
theorem Dm.renamed {w w2:World}{p mb:Nat}{fs:List (Nm×Nat)}{sv:Nat→Value}{con:Nat→Fl}{room:Nat}{left:Int}(h:Dm w p mb fs sv con room left) {x y:Nm}{b:Nat}(hx:fs.lookup x=some b)
  (hm:MapAt w2 mb (((fs.filter fun p=>decide (p.1≠x)).filter fun p=>decide (p.1≠y))++[(y,b)]))(hc:Chg (fun k=>k=mb) w w2) :
  Dm w2 p mb (((fs.filter fun p=>decide (p.1≠x)).filter fun p=>decide (p.1≠y))++[(y,b)]) sv con room left∧∀ k,Has p mb (((fs.filter fun p=>decide (p.1≠x)).filter fun p=>decide (p.1≠y))++[(y,b)]) sv k→Has p mb fs sv k:=by
 obtain⟨h1,h2,h3⟩:=h.p_ne
 have hxb:=lookup_some hx
 have hin:∀ q∈(((fs.filter fun p=>decide (p.1≠x)).filter fun p=>decide (p.1≠y))++[(y,b)]),∃ r∈fs,r.2=q.2:=fun q hq=>by
  rcases List.mem_append.1 hq with hq | hq
  ·exact⟨q,(List.mem_filter.1 (List.mem_filter.1 hq).1).1,rfl⟩
  ·simp at hq;subst hq;exact⟨_,hxb,rfl⟩
 refine⟨⟨h.c.chg hc (fun e=>h1 e.symm),hm,fun q hq=>?_,fun q hq=>?_,?_,fun q hq r hr k hk1 hk2=>?_⟩,?_⟩
 ·obtain⟨r,hr,e⟩:=hin q hq
  rw[←e];exact (h.f r hr).chg hc (h2 r hr).2.2.1
 ·obtain⟨r,hr,e⟩:=hin q hq
  rw[←e];exact (h.o r hr).chg hc (fun k hk e=>(h2 r hr).2.2.2 (by rw[hk,e]))
 ·rw[List.map_append];have hs1:((fs.filter fun p=>decide (p.1≠x)).filter fun p=>decide (p.1≠y)).Sublist fs:=List.filter_sublist.trans List.filter_sublist
  refine List.nodup_append.2 ⟨h.nd.sublist (List.Sublist.map _ hs1),by simp,fun z hz z' hz' e=>?_⟩
  simp at hz'
  obtain⟨q,hq,rfl⟩:=List.mem_map.1 hz
  have hq2:=List.mem_filter.1 (List.mem_filter.1 hq).1
  have hne:q.1≠x:=by simpa using hq2.2
  have he:q.2=b:=by rw[e,hz']
  refine hne ?_
  have:=inj_snd h.nd hq2.1 hxb he
  rw[this]
 ·obtain⟨q',hq',e1⟩:=hin q hq
  obtain⟨r',hr',e2⟩:=hin r hr
  rw[←e1] at hk1 ⊢
  rw[←e2] at hk2 ⊢
  exact h.ap q' hq' r' hr' k hk1 hk2
 ·rintro k (rfl | rfl | ⟨q,hq,hk⟩)
  ·exact .inl rfl
  ·exact .inr (.inl rfl)
  ·obtain⟨r,hr,e⟩:=hin q hq
   rw[←e] at hk;exact .inr (.inr ⟨r,hr,hk⟩)
theorem remove_any {w:World} {p:Nat} {S:Nat→Prop} {d:Dk} (h:DiskAt w p S d) (s:ByteArray) (hs:s.size≤4611686018427387904) :
  Calls Tryz.prog 51 #[.pointer (some ⟨p,0,none⟩),.string s] w fun e w'=>e = .returned (errD (d.remove s.data.toList).1)∧DiskAt w' p (Gr S w w') (d.remove s.data.toList).2∧Chg S w w':=by
 obtain⟨mb,fs,sv,con,hd,hfs,hS,hok⟩:=h
 have HF:=Lib.hid (file_any hd hok.left s (by unfold maxLen;omega))
 have hfind:d.find s.data.toList=(fs.lookup s.data.toList).map con:=by unfold Dk.find;rw[hfs];exact find_map con _ fs
 have HFIND:=Lib.hid hfind
 have HFS:=Lib.hid hfs
 have HS:=Lib.hid hS
 have HOK:=Lib.hid hok
 have HSS:=Lib.hid hs
 obtain⟨R,hR⟩:∃ R,d.remove s.data.toList=R:=⟨_,rfl⟩
 have HR:=Lib.hid hR
 rw[hR];clear hR hd hfind hfs hS hok hs;go_enter Tryz.func51,Tryz.ntmps51
 go_wp2_with (go_at_call 88;refine HF.out.mono ?_)
 rintro e w1 ⟨hfr,hd1,hc1⟩
 have HC1:=Lib.hid hc1
 have HD1:=Lib.hid hd1
 clear hd1 hc1 HF;rcases hfr with ⟨hx,rfl⟩ | ⟨hx,ho,rfl⟩ | ⟨hx,b,ho,rfl⟩
 ·have HX:=Lib.hid hx
  clear hx;go_wp2_with fail;go_ret;have hd1:=HD1.out
  rw[stepL_of HX.out] at hd1
  exact done_mk (n:=14) (d':=d) HS.out rfl hd1 HFS.out (chg_p HC1.out) (fun k hk=>.inl hk) HOK.out (HR.out.symm.trans (at_not HX.out))
 ·have HX:=Lib.hid hx
  have HO:=Lib.hid ho
  clear hx ho;go_wp2_with fail;go_ret;exact done_mk (n:=7) (d':=d.step) HS.out rfl HD1.out HFS.out (chg_p HC1.out) (fun k hk=>.inl hk) HOK.out.step (HR.out.symm.trans (at_none (by rw[HFIND.out,HO.out];rfl) HX.out))
 ·have HX:=Lib.hid hx
  have HO:=Lib.hid ho
  have HFD:Hid (d.find s.data.toList=some (con b)):=by unfold Hid;rw[HFIND.out,HO.out];rfl
  have c0:=HD1.out.c.cell (j:=0) rfl
  obtain⟨w8,hrun,hm8,hc8⟩:=HD1.out.m.drop (s:=s) (by have:=HSS.out;unfold maxLen;omega) 0
  have HM8:=Lib.hid hm8
  have HC8:=Lib.hid hc8
  clear hx ho hm8 hc8;go_wp2_with fail;go_ret;have hch:Chg (Has p mb fs sv) w w8:=(chg_p HC1.out).trans (HC8.out.weak (fun k hk=>.inl (.inr (.inl hk)))) (fun _ h=>.inl h)
  refine done_mk (n:=0) (d':=d.step.del s.data.toList) HS.out rfl (HD1.out.drop HM8.out HC8.out) ?_ hch (fun k hk=>.inl ?_) (HOK.out.step.del _) (HR.out.symm.trans (at_some HFD.out HX.out))
  ·show (d.fs.filter fun p=>decide (p.1≠s.data.toList))=_
   rw[HFS.out];exact filter_mapped con _ fs
  ·rcases hk with hk | hk | ⟨q,hq,hk⟩
   ·exact .inl hk
   ·exact .inr (.inl hk)
   ·exact .inr (.inr ⟨q,(List.mem_filter.1 hq).1,hk⟩)
theorem rename_any {w:World} {p:Nat} {S:Nat→Prop} {d:Dk} (h:DiskAt w p S d) (s t:ByteArray) (hs:s.size≤4611686018427387904) (ht:t.size≤4611686018427387904) :
  Calls Tryz.prog 108 #[.pointer (some ⟨p,0,none⟩),.string s,.string t] w fun e w'=>e = .returned (errD (d.rename s.data.toList t.data.toList).1)∧DiskAt w' p (Gr S w w') (d.rename s.data.toList t.data.toList).2∧Chg S w w':=by
 obtain⟨mb,fs,sv,con,hd,hfs,hS,hok⟩:=h
 have HF:=Lib.hid (file_any hd hok.left s (by unfold maxLen;omega))
 have hfind:d.find s.data.toList=(fs.lookup s.data.toList).map con:=by unfold Dk.find;rw[hfs];exact find_map con _ fs
 have HFIND:=Lib.hid hfind
 have HFS:=Lib.hid hfs
 have HS:=Lib.hid hS
 have HOK:=Lib.hid hok
 have HSS:=Lib.hid hs
 have HTT:=Lib.hid ht
 have HNM:=Lib.hid (fun w=>disk_any t w (by omega))
 obtain⟨R,hR⟩:∃ R,d.rename s.data.toList t.data.toList=R:=⟨_,rfl⟩
 have HR:=Lib.hid hR
 rw[hR];clear hR hd hfind hfs hS hok hs ht;go_enter Tryz.func108,Tryz.ntmps108
 go_wp2_with (go_at_call 88;refine HF.out.mono ?_)
 rintro e w1 ⟨hfr,hd1,hc1⟩
 have HC1:=Lib.hid hc1
 have HD1:=Lib.hid hd1
 clear hd1 hc1 HF;rcases hfr with ⟨hx,rfl⟩ | ⟨hx,ho,rfl⟩ | ⟨hx,b,ho,rfl⟩
 ·have HX:=Lib.hid hx
  clear hx;go_wp2_with fail;go_ret;have hd1:=HD1.out
  rw[stepL_of HX.out] at hd1
  exact done_mk (n:=14) (d':=d) HS.out rfl hd1 HFS.out (chg_p HC1.out) (fun k hk=>.inl hk) HOK.out (HR.out.symm.trans (at_not HX.out))
 ·have HX:=Lib.hid hx
  have HO:=Lib.hid ho
  clear hx ho;go_wp2_with fail;go_ret;exact done_mk (n:=7) (d':=d.step) HS.out rfl HD1.out HFS.out (chg_p HC1.out) (fun k hk=>.inl hk) HOK.out.step (HR.out.symm.trans (at_none (by rw[HFIND.out,HO.out];rfl) HX.out))
 ·have HX:=Lib.hid hx
  have HO:=Lib.hid ho
  have HFD:Hid (d.find s.data.toList=some (con b)):=by unfold Hid;rw[HFIND.out,HO.out];rfl
  clear hx ho;go_wp2_with (go_at_call 131;refine (HNM.out _).mono ?_)
  rintro e w2 ⟨rfl,hB⟩
  have hc2:Chg Nil w1 w2:=Chg.of_below hB _
  have HD2:=Lib.hid (HD1.out.chg hc2 (fun _ _ h=>h))
  have HC2:=Lib.hid (HC1.out.trans hc2 (fun _ h=>h.elim))
  clear hB hc2 HD1 HC1;obtain⟨ok,hok⟩:∃ ok,nameOk 40 cutDisk t.data.toList=ok:=⟨_,rfl⟩
  rw[hok];have HNO:Hid (dkName t.data.toList=ok):=hok
  clear hok;cases ok with
  | false=>
   go_wp2_with fail;go_ret;refine done_mk (n:=5) (d':=d.step) HS.out rfl HD2.out HFS.out (chg_p HC2.out) (fun k hk=>.inl hk) HOK.out.step (HR.out.symm.trans ((at_some HFD.out HX.out).trans ?_))
   simp only[if_pos HNO.out,id]
  | true=>
   have c0:=HD2.out.c.cell (j:=0) rfl
   obtain⟨w8,hrun,hm8,hc8⟩:=HD2.out.m.drop (s:=s) (by have:=HSS.out;unfold maxLen;omega) 0
   have hf200:fs.length≤200:=by have:=HOK.out.few;rw[HFS.out,List.length_map] at this;exact this
   have hfl:(fs.filter fun p=>decide (p.1≠s.data.toList)).length≤fs.length:=List.length_filter_le _ _
   obtain⟨w9,hrun9,hm9,hc9⟩:=hm8.store (s:=t) (by unfold maxLen;omega) (by have:=HTT.out;unfold maxLen;omega) b
   have e0:=(HD2.out.c.chg hc8 (fun e=>HD2.out.p_ne.1 e.symm)).cell (j:=0) rfl
   have HM9:=Lib.hid hm9
   have HC9:=Lib.hid (hc8.trans hc9 (fun _ h=>.inl h))
   clear hm8 hc8 hm9 hc9 hf200 hfl;go_wp2_with fail;go_ret;obtain⟨g1,g2⟩:=HD2.out.renamed HO.out HM9.out HC9.out
   have hch:Chg (Has p mb fs sv) w w9:=(chg_p HC2.out).trans (HC9.out.weak (fun k hk=>.inl (.inr (.inl hk)))) (fun _ h=>.inl h)
   refine done_mk (n:=0) (d':=(d.step.del s.data.toList).put t.data.toList (con b)) HS.out rfl g1 ?_ hch (fun k hk=>.inl (g2 k hk)) (HOK.out.step.renamed HFD.out HNO.out) (HR.out.symm.trans ((at_some HFD.out HX.out).trans ?_))
   ·show ((d.fs.filter fun p=>decide (p.1≠s.data.toList)).filter fun p=>decide (p.1≠t.data.toList))++[(t.data.toList,con b)]=_
    rw[HFS.out,filter_mapped,filter_mapped,List.map_append];rfl
   ·simp only[if_neg (show ¬dkName t.data.toList=false by rw[HNO.out];decide)]
theorem cut_any {w:World} {p:Nat} {S:Nat→Prop} {d:Dk} (h:DiskAt w p S d) (s:ByteArray) (hs:s.size≤4611686018427387904) (n:Int) :
  Calls Tryz.prog 93 #[.pointer (some ⟨p,0,none⟩),.string s,.int .i64 n] w fun e w'=>e = .returned (errD (d.cut s.data.toList n).1)∧DiskAt w' p (Gr S w w') (d.cut s.data.toList n).2∧Chg S w w':=by
 obtain⟨mb,fs,sv,con,hd,hfs,hS,hok⟩:=h
 have HF:=Lib.hid (file_any hd hok.left s (by unfold maxLen;omega))
 have hfind:d.find s.data.toList=(fs.lookup s.data.toList).map con:=by unfold Dk.find;rw[hfs];exact find_map con _ fs
 have HFIND:=Lib.hid hfind
 have HFS:=Lib.hid hfs
 have HS:=Lib.hid hS
 have HOK:=Lib.hid hok
 obtain⟨R,hR⟩:∃ R,d.cut s.data.toList n=R:=⟨_,rfl⟩
 have HR:=Lib.hid hR
 rw[hR];clear hR hd hfind hfs hS hok hs;go_enter Tryz.func93,Tryz.ntmps93
 go_wp2_with (go_at_call 88;refine HF.out.mono ?_)
 rintro e w1 ⟨hfr,hd1,hc1⟩
 have HC1:=Lib.hid hc1
 have HD1:=Lib.hid hd1
 clear hd1 hc1 HF;rcases hfr with ⟨hx,rfl⟩ | ⟨hx,ho,rfl⟩ | ⟨hx,b,ho,rfl⟩
 ·have HX:=Lib.hid hx
  clear hx;go_wp2_with fail;go_ret;have hd1:=HD1.out
  rw[stepL_of HX.out] at hd1
  exact done_mk (n:=14) (d':=d) HS.out rfl hd1 HFS.out (chg_p HC1.out) (fun k hk=>.inl hk) HOK.out (HR.out.symm.trans (at_not HX.out))
 ·have HX:=Lib.hid hx
  have HO:=Lib.hid ho
  clear hx ho;go_wp2_with fail;go_ret;exact done_mk (n:=7) (d':=d.step) HS.out rfl HD1.out HFS.out (chg_p HC1.out) (fun k hk=>.inl hk) HOK.out.step (HR.out.symm.trans (at_none (by rw[HFIND.out,HO.out];rfl) HX.out))
 ·have HX:=Lib.hid hx
  have HO:=Lib.hid ho
  have hmem:=lookup_some ho
  have hrow:SlcRow w1 5 1 (sv b) (con b).bytes.length ((con b).bytes.map bval):=HD1.out.o _ hmem
  have hbx:Box w1 b [sv b,.int .i64 ((con b).safe:Nat)] 141:=HD1.out.f _ hmem
  have HFD:Hid (d.find s.data.toList=some (con b)):=by unfold Hid;rw[HFIND.out,HO.out];rfl
  have HMEM:=Lib.hid hmem
  have HROW:=Lib.hid hrow
  have HBX:=Lib.hid hbx
  obtain⟨a,c,hsv,hle,hcm⟩:=hrow.form
  have y0:=hbx.cell (j:=0) rfl
  rw[hsv] at y0;have y1:=hbx.cell (j:=1) rfl
  have z0:=hbx.free 0
  have z1:=hbx.free 1
  have HSV:=Lib.hid hsv
  clear hx ho hmem hrow hbx hsv;by_cases hbad:n<0∨((con b).bytes.length:Int)<n
  ·have HBAD:=Lib.hid hbad
   have hfin:∀ w2,Chg Nil w1 w2→Ending.returned (Value.iface 65 (.int .i64 2)) = .returned (errD R.1)∧DiskAt w2 p (Gr S w w2) R.2∧Chg S w w2:=fun w2 hw=>by
    refine done_mk (n:=2) (d':=d.step) HS.out rfl (HD1.out.chg hw (fun _ _ h=>h)) HFS.out (chg_p (HC1.out.trans hw (fun _ h=>h.elim))) (fun k hk=>.inl hk) HOK.out.step (HR.out.symm.trans ((at_some HFD.out HX.out).trans ?_))
    simp only[if_pos HBAD.out,id]
   have HFIN:=Lib.hid hfin
   clear hfin;rcases hbad with hn0 | hn1
   ·go_wp2_with fail;go_ret;exact HFIN.out _ (Chg.refl _ _)
   ·by_cases hn0:n<0
    ·go_wp2_with fail;go_ret;exact HFIN.out _ (Chg.refl _ _)
    ·go_wp2_with fail;go_ret;exact HFIN.out _ (Chg.refl _ _)
  ·have HBAD:=Lib.hid hbad
   obtain⟨K,rfl⟩:∃ K:Nat,n=(K:Int):=⟨n.toNat,by omega⟩
   have hKL:K≤(con b).bytes.length:=by omega
   have hn0:¬(K:Int)<0:=by omega
   have hn1:¬((con b).bytes.length:Int)<(K:Int):=by omega
   have hk2:K≤c:=by omega
   have hk0:0≤K:=Nat.zero_le _
   have hmn:min (((con b).safe:Nat):Int) (K:Int)=((min (con b).safe K:Nat):Int):=by omega
   obtain⟨M,hM⟩:∃ M,min (con b).safe K=M:=⟨_,rfl⟩
   rw[hM] at hmn;have HM:=Lib.hid hM
   clear hbad hM;go_wp2_with fail;go_ret;have hrow:=HROW.out
   rw[HSV.out] at hrow;have hrow2:=hrow.cut hKL
   have hlk:((con b).bytes.take K).length=K:=by rw[List.length_take];omega
   have hs1:Chg (fun k=>k=b) w1 (w1.setCell ⟨b,0,none⟩ (.slice a K K)):=Chg.setCell (S:=fun k=>k=b) (p:=⟨b,0,none⟩) (Chg.refl _ w1) (.inl rfl) _
   have hs2:Chg (fun k=>k=b) w1 ((w1.setCell ⟨b,0,none⟩ (.slice a K K)).setCell ⟨b,1,none⟩ (.int .i64 (M:Nat))):=Chg.setCell (S:=fun k=>k=b) (p:=⟨b,1,none⟩) hs1 (.inl rfl) _
   have hroom:∀ k,Value.room (.slice a K K)=some k→Value.room (sv b)=some k:=fun k hk=>by
    rw[HSV.out];cases K with
    | zero=>cases a<;>cases hk
    | succ K=>
     cases c with
     | zero=>omega
     | succ c=>cases a with
      | none=>cases hk
      | some y=>exact hk
   have hnb:Value.room (sv b)≠some b:=HD1.out.p_ne.2.2 _ HMEM.out _ HMEM.out
   obtain⟨g1,g2,g3⟩:=HD1.out.turn (q:=(s.data.toList,b)) HMEM.out (.slice a K K) ⟨(con b).bytes.take K,M⟩ ((HBX.out.set 0 (.slice a K K)).set 1 (.int .i64 (M:Nat))) (hrow2.chg hs2 (fun k hk e=>hnb ((hroom k hk).trans (congrArg some e)))) (hs2.weak (fun k hk=>.inl (.inl hk))) (fun k hk=>.inl (hroom k hk))
   have hsz:=HC1.out.size
   refine done_mk (n:=0) (d':=d.step.turn s.data.toList ⟨(con b).bytes.take K,M⟩) HS.out rfl g1 ?_ ((chg_p HC1.out).trans g2 (fun _ h=>.inl h)) (fun k hk=>(g3 k hk).imp id (fun h=>by omega)) ?_ (HR.out.symm.trans ((at_some HFD.out HX.out).trans ?_))
   ·exact turn_fs (d:=d.step) HFS.out HO.out HD1.out.m.1 HD1.out.nd
   ·refine HOK.out.step.turn (x:=s.data.toList) (g:=con b) HFD.out ?_ ?_
    ·show M≤((con b).bytes.take K).length
     have:=HM.out
     omega
    ·show d.used+((con b).bytes.take K).length≤d.room+(con b).bytes.length
     have:=HOK.out.fits
     omega
   ·have h1:((K:Int)).toNat=K:=Int.toNat_natCast K
    simp only[if_neg HBAD.out,h1,HM.out]
structure SgS (B:Nat→Prop) (w:World) (p s:Nat) (S:Nat→Prop) (v:Value) (d:Dk) (g:Sg):Prop where
 lo:∀ k,B k→k<w.heap.size
 a:DiskAt w p S d
 m:Sm w s p v g
 ap:∀ k,SHas s v k→¬S k
 sl:∀ k,S k→¬B k∧k<w.heap.size
 ml:∀ k,SHas s v k→¬B k
theorem SgS.disk {B:Nat→Prop}{w w':World}{p s:Nat}{S:Nat→Prop}{v:Value}{d d':Dk}{g:Sg}(h:SgS B w p s S v d g)(ha:DiskAt w' p (Gr S w w') d')(hc:Chg S w w'):SgS B w' p s (Gr S w w') v d' g:=by
 have hz:=hc.size
 refine⟨fun k hk=>Nat.lt_of_lt_of_le (h.lo k hk) hz,ha,h.m.chg hc (fun k hk=>h.ap k hk),?_,?_,h.ml⟩
 ·rintro k hk (hs | hs)
  ·exact h.ap k hk hs
  ·have:=h.m.lt k hk;omega
 ·rintro k (hs | hs)
  ·exact⟨(h.sl k hs).1,by have:=(h.sl k hs).2;omega⟩
  ·exact⟨fun hb=>by have:=h.lo k hb;have:=hs.1;omega,hs.2⟩
theorem SgS.seg {B:Nat→Prop}{w w':World}{p s:Nat}{S:Nat→Prop}{v v':Value}{d:Dk}{g g':Sg}(h:SgS B w p s S v d g)(hm:Sm w' s p v' g')(hc:Chg (SHas s v) w w')(hn:∀ k,SHas s v' k→SHas s v k∨w.heap.size≤k):SgS B w' p s S v' d g':=by
 have hz:=hc.size
 refine⟨fun k hk=>Nat.lt_of_lt_of_le (h.lo k hk) hz,h.a.chg hc (fun k hk hs=>h.ap k hs hk),hm,fun k hk hs=>?_,fun k hs=>⟨(h.sl k hs).1,by have:=(h.sl k hs).2;omega⟩,fun k hk=>?_⟩
 ·rcases hn k hk with h9 | h9
  ·exact h.ap k h9 hs
  ·have:=(h.sl k hs).2;omega
 ·rcases hn k hk with h9 | h9
  ·exact h.ml k h9
  ·exact fun hb=>by have:=h.lo k hb;omega
theorem SgS.nil {B:Nat→Prop}{w w':World}{p s:Nat}{S:Nat→Prop}{v:Value}{d:Dk}{g:Sg}(h:SgS B w p s S v d g)(hc:Chg Nil w w'):SgS B w' p s S v d g:=by
 have hz:=hc.size
 exact⟨fun k hk=>Nat.lt_of_lt_of_le (h.lo k hk) hz,h.a.chg hc (fun _ _ h=>h),h.m.chg hc (fun _ _ h=>h),h.ap,fun k hs=>⟨(h.sl k hs).1,by have:=(h.sl k hs).2;omega⟩,h.ml⟩
def Off (B:Nat→Prop):Nat→Prop:=fun k=>¬B k
def SopF (B:Nat→Prop) (p s:Nat) (S:Nat→Prop) (v:Value) (d:Dk) (g:Sg) (r:Nat×Dk):List Value→World→Prop
 | [],w=>SgS B w p s S v d g
 | _::_,w=>∃ S',SgS B w p s S' v r.2 g
theorem ssync_any {B:Nat→Prop} {w:World} {p s:Nat} {S:Nat→Prop} {v:Value} {d:Dk} {g:Sg} (h:SgS B w p s S v d g) (hg:g.name.length≤1000) :
  Calls Tryz.prog 56 #[.pointer (some ⟨s,0,none⟩)] w fun e w'=>e = .returned (errD (d.sync g.name).1)∧(∃ S',SgS B w' p s S' v (d.sync g.name).2 g)∧Chg (Off B) w w':=by
 have HS:=Lib.hid h
 have HG:=Lib.hid hg
 have c0:=h.m.c.cell (j:=0) rfl
 have c1:=h.m.c.cell (j:=1) rfl
 have HOP:=Lib.hid (fun (w':World) (h:SgS B w' p s S v d g)=>sync_any h.a ⟨g.name.toArray⟩ (by show g.name.toArray.size≤4611686018427387904;simp;have:=HG.out;omega))
 obtain⟨R,hR⟩:∃ R,d.sync g.name=R:=⟨_,rfl⟩
 have HR:=Lib.hid hR
 clear hR h hg;rw[HR.out];go_enter Tryz.func56,Tryz.ntmps56
 go_upto_region 1 with fail;refine Ch.wp_region_chain _ (Chg (fun k=>¬B k∧¬SHas s v k)) [8] (SopF B p s S v d g R) (by kernel_rfl) (fun _=>Chg.refl _ _) (fun _ _ _ h k=>h.trans k (fun _ h=>.inl h)) [[],[0],[1],[2],[],[4],[5],[6],[3,7],[8]] rfl (by kernel_rfl) (by kernel_rfl) (Chg.refl _ _).drew ?_ ?_
 ·exact HS.out.nil (Chg.refl Nil _).drew
 iterate 3 ((with_reducible apply Ch.Walk.eq);(case hd=>rfl);(case hi=>rfl);case h=>(intro w2 hw2 N hN;simp only[Ch.depB];go_simp;(try go_bits);with_reducible exact hN _ (Chg.refl _ _) (fun _ h=>h)))
 ((with_reducible apply Ch.Walk.eq);(case hd=>rfl);(case hi=>rfl);case h=>(intro w2 hw2 N hN;(have hq:=hw2.cell c0 (fun h=>h.2 (.inl rfl)));simp only[Ch.depB];go_simp;(try go_bits);with_reducible exact hN _ (Chg.refl _ _) (fun _ h=>h)))
 iterate 3 ((with_reducible apply Ch.Walk.eq);(case hd=>rfl);(case hi=>rfl);case h=>(intro w2 hw2 N hN;simp only[Ch.depB];go_simp;(try go_bits);with_reducible exact hN _ (Chg.refl _ _) (fun _ h=>h)))
 ((with_reducible apply Ch.Walk.eq);(case hd=>rfl);(case hi=>rfl);case h=>(intro w2 hw2 N hN;(have hq:=hw2.cell c1 (fun h=>h.2 (.inl rfl)));simp only[Ch.depB];go_simp;(try go_bits);with_reducible exact hN _ (Chg.refl _ _) (fun _ h=>h)))
 refine Ch.Walk.chainE 0 (c:=errD R.1) rfl rfl ?_ ?_
 ·intro w6 hw6 vs hvs hF N hN;obtain rfl:=List.eq_nil_of_length_eq_zero hvs
  have F3:SgS B w6 p s S v d g:=hF
  have HO6:=Lib.hid (HOP.out w6 F3)
  have HF3:=Lib.hid F3
  clear F3 hF;simp only[Ch.depB,Ch.depC,Nat.reduceBEq,Nat.reduceAdd]
  go_simp;refine HO6.out.mono ?_
  rintro e w7 ⟨rfl,h2,h3⟩
  have h2:DiskAt w7 p (Gr S w6 w7) (d.sync g.name).2:=h2
  have he:errD (d.sync (ByteArray.mk g.name.toArray).data.toList).1=errD R.1:=by show errD (d.sync g.name).1=_;rw[HR.out]
  rw[HR.out] at h2;rw[he];exact⟨_,rfl,hN _ (h3.weak (fun k hk=>.inl ⟨(HF3.out.sl k hk).1,fun hs=>HF3.out.ap k hs hk⟩)) ⟨_,HF3.out.disk h2 h3⟩⟩
 ((with_reducible apply Ch.Walk.eq);(case hd=>rfl);(case hi=>rfl);case h=>(intro w2 hw2 N hN;simp only[Ch.depB];go_simp;(try go_bits);with_reducible exact hN _ (Chg.refl _ _) (fun _ h=>h)))
 intro w6 hw6;simp only[List.nil_append,List.cons_append,Ch.Fin,List.map_cons,List.map_nil,List.getD_cons_zero,List.getD_cons_succ]
 intro hF;have HF:=Lib.hid hF
 have HW6:=Lib.hid hw6
 clear hF hw6 c0 c1;go_simp;go_wp2_with fail;go_ret;obtain⟨S',h9⟩:=HF.out
 exact⟨rfl,⟨S',h9⟩,HW6.out.weak (fun k hk=>.inl hk.1)⟩
theorem sremove_any {B:Nat→Prop} {w:World} {p s:Nat} {S:Nat→Prop} {v:Value} {d:Dk} {g:Sg} (h:SgS B w p s S v d g) (hg:g.name.length≤1000) :
  Calls Tryz.prog 102 #[.pointer (some ⟨s,0,none⟩)] w fun e w'=>e = .returned (errD (d.remove g.name).1)∧(∃ S',SgS B w' p s S' v (d.remove g.name).2 g)∧Chg (Off B) w w':=by
 have HS:=Lib.hid h
 have HG:=Lib.hid hg
 have c0:=h.m.c.cell (j:=0) rfl
 have c1:=h.m.c.cell (j:=1) rfl
 have HOP:=Lib.hid (fun (w':World) (h:SgS B w' p s S v d g)=>remove_any h.a ⟨g.name.toArray⟩ (by show g.name.toArray.size≤4611686018427387904;simp;have:=HG.out;omega))
 obtain⟨R,hR⟩:∃ R,d.remove g.name=R:=⟨_,rfl⟩
 have HR:=Lib.hid hR
 clear hR h hg;rw[HR.out];go_enter Tryz.func102,Tryz.ntmps102
 go_upto_region 1 with fail;refine Ch.wp_region_chain _ (Chg (fun k=>¬B k∧¬SHas s v k)) [8] (SopF B p s S v d g R) (by kernel_rfl) (fun _=>Chg.refl _ _) (fun _ _ _ h k=>h.trans k (fun _ h=>.inl h)) [[],[0],[1],[2],[],[4],[5],[6],[3,7],[8]] rfl (by kernel_rfl) (by kernel_rfl) (Chg.refl _ _).drew ?_ ?_
 ·exact HS.out.nil (Chg.refl Nil _).drew
 iterate 3 ((with_reducible apply Ch.Walk.eq);(case hd=>rfl);(case hi=>rfl);case h=>(intro w2 hw2 N hN;simp only[Ch.depB];go_simp;(try go_bits);with_reducible exact hN _ (Chg.refl _ _) (fun _ h=>h)))
 ((with_reducible apply Ch.Walk.eq);(case hd=>rfl);(case hi=>rfl);case h=>(intro w2 hw2 N hN;(have hq:=hw2.cell c0 (fun h=>h.2 (.inl rfl)));simp only[Ch.depB];go_simp;(try go_bits);with_reducible exact hN _ (Chg.refl _ _) (fun _ h=>h)))
 iterate 3 ((with_reducible apply Ch.Walk.eq);(case hd=>rfl);(case hi=>rfl);case h=>(intro w2 hw2 N hN;simp only[Ch.depB];go_simp;(try go_bits);with_reducible exact hN _ (Chg.refl _ _) (fun _ h=>h)))
 ((with_reducible apply Ch.Walk.eq);(case hd=>rfl);(case hi=>rfl);case h=>(intro w2 hw2 N hN;(have hq:=hw2.cell c1 (fun h=>h.2 (.inl rfl)));simp only[Ch.depB];go_simp;(try go_bits);with_reducible exact hN _ (Chg.refl _ _) (fun _ h=>h)))
 refine Ch.Walk.chainE 0 (c:=errD R.1) rfl rfl ?_ ?_
 ·intro w6 hw6 vs hvs hF N hN;obtain rfl:=List.eq_nil_of_length_eq_zero hvs
  have F3:SgS B w6 p s S v d g:=hF
  have HO6:=Lib.hid (HOP.out w6 F3)
  have HF3:=Lib.hid F3
  clear F3 hF;simp only[Ch.depB,Ch.depC,Nat.reduceBEq,Nat.reduceAdd]
  go_simp;refine HO6.out.mono ?_
  rintro e w7 ⟨rfl,h2,h3⟩
  have h2:DiskAt w7 p (Gr S w6 w7) (d.remove g.name).2:=h2
  have he:errD (d.remove (ByteArray.mk g.name.toArray).data.toList).1=errD R.1:=by show errD (d.remove g.name).1=_;rw[HR.out]
  rw[HR.out] at h2;rw[he];exact⟨_,rfl,hN _ (h3.weak (fun k hk=>.inl ⟨(HF3.out.sl k hk).1,fun hs=>HF3.out.ap k hs hk⟩)) ⟨_,HF3.out.disk h2 h3⟩⟩
 ((with_reducible apply Ch.Walk.eq);(case hd=>rfl);(case hi=>rfl);case h=>(intro w2 hw2 N hN;simp only[Ch.depB];go_simp;(try go_bits);with_reducible exact hN _ (Chg.refl _ _) (fun _ h=>h)))
 intro w6 hw6;simp only[List.nil_append,List.cons_append,Ch.Fin,List.map_cons,List.map_nil,List.getD_cons_zero,List.getD_cons_succ]
 intro hF;have HF:=Lib.hid hF
 have HW6:=Lib.hid hw6
 clear hF hw6 c0 c1;go_simp;go_wp2_with fail;go_ret;obtain⟨S',h9⟩:=HF.out
 exact⟨rfl,⟨S',h9⟩,HW6.out.weak (fun k hk=>.inl hk.1)⟩
theorem check_any (base en:Int) (a:Option Addr) (rs:List Rec) (cap:Nat) (w:World) (hb:-9223372036854775808≤base∧base≤9223372036854775807) (he:-9223372036854775808≤en∧en≤9223372036854775807) (hl:rs.length≤maxLen) (hok:∀ r∈rs,Rec.Ok r) (hc:RecsAt w a rs) :
  Calls Tryz.prog 96 #[.agg #[.int .i64 base,.int .i64 en,.slice a rs.length cap]] w fun e w'=>e = .returned (errV 65 (checkB base en rs))∧Chg Nil w w':=by
 unfold maxLen at hl;by_cases h0:base<0
 ·have HR:Hid (checkB base en rs=2):=by unfold Hid checkB;rw[if_pos (.inl h0)]
  go_enter Tryz.func96,Tryz.ntmps96
  go_wp2
  go_ret;exact⟨by rw[HR.out];rfl,(Chg.refl _ _).alloc _⟩
 ·by_cases h1:1099511627776<en
  ·have HR:Hid (checkB base en rs=2):=by unfold Hid checkB;rw[if_pos (.inr h1)]
   go_enter Tryz.func96,Tryz.ntmps96
   go_wp2
   go_ret;exact⟨by rw[HR.out];rfl,(Chg.refl _ _).alloc _⟩
  ·by_cases h2:en≤base
   ·have HR:Hid (checkB base en rs=1):=by unfold Hid checkB;rw[if_neg (by omega),if_pos h2]
    go_enter Tryz.func96,Tryz.ntmps96
    go_wp2
    go_ret;exact⟨by rw[HR.out];rfl,(Chg.refl _ _).alloc _⟩
   ·by_cases h3:50<rs.length
    ·have HR:Hid (checkB base en rs=4):=by unfold Hid checkB;rw[if_neg (by omega),if_neg (by omega),if_pos (.inl h3)]
     go_enter Tryz.func96,Tryz.ntmps96
     go_wp2
     go_ret;exact⟨by rw[HR.out];rfl,(Chg.refl _ _).alloc _⟩
    ·by_cases h4:50<en-base
     ·have HR:Hid (checkB base en rs=4):=by unfold Hid checkB;rw[if_neg (by omega),if_neg (by omega),if_pos (.inr h4)]
      go_enter Tryz.func96,Tryz.ntmps96
      go_wp2
      go_ret;exact⟨by rw[HR.out];rfl,(Chg.refl _ _).alloc _⟩
     ·go_enter Tryz.func96,Tryz.ntmps96
      go_wp2
      have hc0:BoxAt (w.alloc (.cells #[.int .i64 base,.int .i64 en,.slice a rs.length cap] 112)) w.heap.size [.int .i64 base,.int .i64 en,.slice a rs.length cap]:=BoxAt.new _ _ _
      have hch0:Chg Nil w (w.alloc (.cells #[.int .i64 base,.int .i64 en,.slice a rs.length cap] 112)):=(Chg.refl _ _).alloc _
      have hsz:w.heap.size<(w.alloc (.cells #[.int .i64 base,.int .i64 en,.slice a rs.length cap] 112)).heap.size:=by simp
      generalize hbase:w.alloc (.cells #[.int .i64 base,.int .i64 en,.slice a rs.length cap] 112)=w1 at *;clear hbase
      go_loopw [3,40] (fun v i wr=>∃ (k:Nat) (last:Int),k≤rs.length∧i = .int .i64 k∧v = .int .i64 last∧Hid (checkRecs en last (rs.drop k)=checkB base en rs)∧Chg Nil w1 wr∧-9223372036854775808≤last∧last≤9223372036854775807) (fun _ i _=>rs.length-(intOf i).toNat)
      case atStart=>exact⟨0,base-1,Nat.zero_le _,rfl,rfl,by unfold checkB;rw[if_neg (by omega),if_neg (by omega),if_neg (by omega)];rfl,Chg.refl _ _,by omega,by omega⟩
      case round=>
       obtain⟨k,last,hk,rfl,rfl,HC,hch,hla,hlb⟩:=hrel
       by_cases hlt:k<rs.length
       ·obtain⟨b,off,rfl,hcell⟩:=RecsAt.chg hch (RecsAt.chg hch0 hc (fun _ _ h=>h)) (fun _ _ h=>h) k hlt
        have hen:wr.cell? ⟨w.heap.size,1,none⟩=some (.int .i64 en):=hch.cell (hc0 1 _ rfl) (fun h=>h)
        have g0:wr.cell? ⟨b,off+k*6,none⟩=_:=hcell 0 _ rfl
        have g1:=hcell 1 _ rfl
        have g2:=hcell 2 _ rfl
        have g3:=hcell 3 _ rfl
        have g4:=hcell 4 _ rfl
        have g5:=hcell 5 _ rfl
        have hlt1:w.heap.size<wr.heap.size:=Nat.lt_of_lt_of_le hsz hch.size
        have HD:Hid (checkRecs en last (rs.drop k)=if badArg last en rs[k]=true then 1 else if badLen rs[k]=true then 4 else if badTime rs[k]=true then 2 else checkRecs en rs[k].off (rs.drop (k+1))):=by
         unfold Hid;rw[←List.getElem_cons_drop hlt]
         rfl
        have hrk:=hok _ (List.getElem_mem hlt)
        clear hcell hc0 hc;generalize rs[k]=r at *;obtain⟨ro,rt,rk,rkey,rg,rval⟩:=r
        simp only at g0 g1 g2 g3 g4 g5
        have HRK:=Lib.hid hrk
        clear hrk;go_upto_region 11 with fail;have hbx:BoxAt (wr.alloc (.cells (Rec.cells ⟨ro,rt,rk,rkey,rg,rval⟩).toArray 37)) wr.heap.size (Rec.cells ⟨ro,rt,rk,rkey,rg,rval⟩):=BoxAt.new _ _ _
        have hchx:Chg Nil w1 (wr.alloc (.cells (Rec.cells ⟨ro,rt,rk,rkey,rg,rval⟩).toArray 37)):=hch.alloc _
        go_cut [5,40,44] from 41 to 100 (fun s5 s40 s44 wx=>∃ g:Nat,s5 = .pointer (some ⟨g,0,none⟩)∧s40 = .int .i64 k∧s44 = .bool (badArg last en ⟨ro,rt,rk,rkey,rg,rval⟩)∧BoxAt wx g (Rec.cells ⟨ro,rt,rk,rkey,rg,rval⟩)∧Chg Nil w1 wx)
        case first=>
         clear HC HD g0 g1 g2 g3 g4 g5 h3 hb he;by_cases ha1:ro≤last
         ·go_wp2_with fail;go_meet
          case rel=>exact⟨_,rfl,rfl,by simp[badArg,ha1],hbx,hchx⟩
         ·by_cases ha2:en≤ro
          ·go_wp2_with fail;go_meet
           case rel=>exact⟨_,rfl,rfl,by simp[badArg,ha2],hbx,hchx⟩
          ·have hA1:decide (ro≤last)=false:=by simp;omega
           have hA2:decide (en≤ro)=false:=by simp;omega
           have hK:(rk=false∧rkey.toList.isEmpty=false)∨rk=true∨(rk=false∧rkey.toList.isEmpty=true):=by
            cases rk<;>cases rkey.toList.isEmpty<;>simp
           rcases hK with ⟨rfl,he1⟩ | hK
           ·go_wp2_with fail;go_meet
            case rel=>exact⟨_,rfl,rfl,by simp[badArg,hA1,hA2,he1],hbx,hchx⟩
           ·have hG:(rg=true∧rval.toList.isEmpty=false)∨rg=false∨(rg=true∧rval.toList.isEmpty=true):=by
             cases rg<;>cases rval.toList.isEmpty<;>simp
            rcases hG with ⟨rfl,he2⟩ | rfl | ⟨rfl,he2⟩
            ·rcases hK with rfl | ⟨rfl,he1⟩
             ·go_wp2_with fail;go_meet
              case rel=>exact⟨_,rfl,rfl,by simp[badArg,hA1,hA2,he2],hbx,hchx⟩
             ·go_wp2_with fail;go_meet
              case rel=>exact⟨_,rfl,rfl,by simp[badArg,hA1,hA2,he1,he2],hbx,hchx⟩
            ·rcases hK with rfl | ⟨rfl,he1⟩
             ·go_wp2_with fail;go_meet
              case rel=>exact⟨_,rfl,rfl,by simp[badArg,hA1,hA2],hbx,hchx⟩
             ·go_wp2_with fail;go_meet
              case rel=>exact⟨_,rfl,rfl,by simp[badArg,hA1,hA2,he1],hbx,hchx⟩
            ·rcases hK with rfl | ⟨rfl,he1⟩
             ·go_wp2_with fail;go_meet
              case rel=>exact⟨_,rfl,rfl,by simp[badArg,hA1,hA2,he2],hbx,hchx⟩
             ·go_wp2_with fail;go_meet
              case rel=>exact⟨_,rfl,rfl,by simp[badArg,hA1,hA2,he1,he2],hbx,hchx⟩
        case rest=>
         clear hchx hbx hch;obtain⟨g,rfl,rfl,rfl,hbx,hch⟩:=hcut
         have e0:=hbx 0 _ rfl
         have e1:=hbx 1 _ rfl
         have e3:=hbx 3 _ rfl
         have e5:=hbx 5 _ rfl
         clear g0 g1 g2 g3 g4 g5 hen hlt1 h3 hb he;cases hA:badArg last en ⟨ro,rt,rk,rkey,rg,rval⟩
         case true=>
          have HR:Hid (checkB base en rs=1):=by rw[←HC.out,HD.out,if_pos hA];rfl
          clear hA;go_wp2_with fail;go_ret;exact⟨by rw[HR.out];rfl,hch0.trans hch (fun _ h=>h.elim)⟩
         case false=>
          have HA:=Lib.hid hA
          clear hA;have hk1:rkey.size≤maxLen:=HRK.out.key
          have hk2:rval.size≤maxLen:=HRK.out.value
          unfold maxLen at hk1 hk2;go_upto_region 13 with fail;go_cut [5,40,76] from 41 to 100 (fun s5 s40 s76 wx=>s5 = .pointer (some ⟨g,0,none⟩)∧s40 = .int .i64 k∧s76 = .bool (badLen ⟨ro,rt,rk,rkey,rg,rval⟩)∧wx=wc)
          case first=>
           by_cases hl1:60<rkey.size
           ·have HL:Hid (badLen ⟨ro,rt,rk,rkey,rg,rval⟩=true):=by simp[badLen,Hid,hl1]
            go_wp2_with fail;go_meet
            case rel=>exact⟨rfl,rfl,by rw[HL.out],rfl⟩
           ·by_cases hl2:500<rval.size
            ·have HL:Hid (badLen ⟨ro,rt,rk,rkey,rg,rval⟩=true):=by simp[badLen,Hid,hl2]
             go_wp2_with fail;go_meet
             case rel=>exact⟨rfl,rfl,by rw[HL.out];congr 1;simp;omega,rfl⟩
            ·have HL:Hid (badLen ⟨ro,rt,rk,rkey,rg,rval⟩=false):=by simp only[badLen,Hid,Bool.or_eq_false_iff,decide_eq_false_iff_not];exact⟨hl1,hl2⟩
             go_wp2_with fail;go_meet
             case rel=>exact⟨rfl,rfl,by rw[HL.out];congr 1;simp;omega,rfl⟩
          case rest=>
           obtain⟨rfl,rfl,rfl,rfl⟩:=hcut
           cases hB:badLen ⟨ro,rt,rk,rkey,rg,rval⟩
           case true=>
            have HR:Hid (checkB base en rs=4):=by rw[←HC.out,HD.out,if_neg (by rw[HA.out];simp),if_pos hB];rfl
            clear hB;go_wp2_with fail;go_ret;exact⟨by rw[HR.out];rfl,hch0.trans hch (fun _ h=>h.elim)⟩
           case false=>
            have HB:=Lib.hid hB
            clear hB;by_cases ht1:rt<0
            ·have HR:Hid (checkB base en rs=2):=by rw[←HC.out,HD.out,if_neg (by rw[HA.out];simp),if_neg (by rw[HB.out];simp),if_pos (by simp[badTime,ht1])];rfl
             go_wp2_with fail;go_ret;exact⟨by rw[HR.out];rfl,hch0.trans hch (fun _ h=>h.elim)⟩
            ·by_cases ht2:1099511627776<rt
             ·have HR:Hid (checkB base en rs=2):=by rw[←HC.out,HD.out,if_neg (by rw[HA.out];simp),if_neg (by rw[HB.out];simp),if_pos (by simp[badTime,ht2])];rfl
              go_wp2_with fail;go_ret;exact⟨by rw[HR.out];rfl,hch0.trans hch (fun _ h=>h.elim)⟩
             ·have HN:Hid (checkRecs en ro (rs.drop (k+1))=checkB base en rs):=by
               rw[←HC.out,HD.out,if_neg (by rw[HA.out];simp),if_neg (by rw[HB.out];simp),if_neg (by simp only[badTime,Bool.or_eq_true,decide_eq_true_eq];omega)];rfl
              have hro:=HRK.out.off
              simp only at hro
              go_wp2_with fail;go_roundw
              case rel=>exact⟨k+1,ro,by omega,by go_num,rfl,HN.out,hch,hro.1,hro.2⟩
              case measure=>simp[intOf];omega
       ·have HZ:Hid (checkB base en rs=0):=by
         rw[←HC.out,List.drop_of_length_le (by omega)];rfl
        go_wp2_with fail;go_ret;exact⟨by rw[HZ.out];rfl,hch0.trans hch (fun _ h=>h.elim)⟩
end Go.Proofs.YtdjmifaidgbbaaaGreatDoor
