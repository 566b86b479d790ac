/-
  Add and Sync.
-/
import Derived.Test.YtobegmcbfgnpnaaGreatDoorU20
import Derived.Test.YtobegmcbfgnpnaaGreatDoorU11
set_option linter.unusedVariables false
set_option linter.unusedSimpArgs false
set_option maxHeartbeats 0
set_option maxRecDepth 200000
namespace Go.Proofs.YtobegmcbfgnpnaaGreatDoor
open Go.RowKit Go.Maps
def updSv (sv:Nat→Value) (b:Nat) (v:Value):Nat→Value:=fun k=>if k=b then v else sv k
def updCon (con:Nat→Fl) (b:Nat) (f:Fl):Nat→Fl:=fun k=>if k=b then f else con k
theorem Dm.turn {w w2:World}{p mb:Nat}{fs:List (Nm×Nat)}{sv:Nat→Value}{con:Nat→Fl}{room:Nat}{left:Int}(h:Dm w p mb fs sv con room left) {q:Nm×Nat}(hq:q∈fs) (v':Value) (f':Fl)
  (hbox:Box w2 q.2 [v',.int .i64 (f'.safe:Nat)] 110)(hrow:SlcRow w2 5 1 v' f'.bytes.length (f'.bytes.map bval))
  (hc:Chg (fun k=>k=q.2∨Value.room (sv q.2)=some k) w w2)(hown:∀ k,Value.room v'=some k→Value.room (sv q.2)=some k∨w.heap.size≤k) :
  Dm w2 p mb fs (updSv sv q.2 v') (updCon con q.2 f') room left∧Chg (Has p mb fs sv) w w2∧∀ k,Has p mb fs (updSv sv q.2 v') k→Has p mb fs sv k∨w.heap.size≤k:=by
 obtain⟨h1,h2,h3⟩:=h.p_ne
 have hqq:=h2 q hq
 have hsame:updSv sv q.2 v' q.2=v'∧updCon con q.2 f' q.2=f':=⟨if_pos rfl,if_pos rfl⟩
 have hoth:∀ r∈fs,r.2≠q.2→updSv sv q.2 v' r.2=sv r.2∧updCon con q.2 f' r.2=con r.2:=fun r _ hne=>⟨if_neg hne,if_neg hne⟩
 have hap:∀ r∈fs,r.2≠q.2→∀ k,Value.room v'=some k→Value.room (sv r.2)≠some k:=fun r hr hne k hk1 hk2=>by
  rcases hown k hk1 with g | g
  ·exact hne (h.ap r hr q hq k hk2 g)
  ·have:=h.lt k (.inr (.inr ⟨r,hr,.inr hk2⟩));omega
 refine⟨⟨h.c.chg hc ?_,h.m.chg hc ?_,fun r hr=>?_,fun r hr=>?_,h.nd,fun r hr t ht k hk1 hk2=>?_⟩,hc.weak (fun k hk=>.inl (.inr (.inr ⟨q,hq,hk⟩))),?_⟩
 ·rintro (e | e)
  ·exact hqq.1 e.symm
  ·exact hqq.2.1 e
 ·rintro (e | e)
  ·exact hqq.2.2.1 e.symm
  ·exact hqq.2.2.2 e
 ·by_cases hne:r.2=q.2
  ·rw[hne,hsame.1,hsame.2];exact hbox
  ·rw[(hoth r hr hne).1,(hoth r hr hne).2]
   refine (h.f r hr).chg hc ?_
   rintro (e | e)
   ·exact hne e
   ·exact h3 q hq r hr e
 ·by_cases hne:r.2=q.2
  ·rw[hne,hsame.1,hsame.2];exact hrow
  ·rw[(hoth r hr hne).1,(hoth r hr hne).2]
   refine (h.o r hr).chg hc (fun k hk=>?_)
   rintro (e | e)
   ·exact h3 r hr q hq (by rw[hk,e])
   ·exact hne (h.ap r hr q hq k hk e)
 ·by_cases hr':r.2=q.2
  ·by_cases ht':t.2=q.2
   ·rw[hr',ht']
   ·rw[hr',hsame.1] at hk1;rw[(hoth t ht ht').1] at hk2
    exact absurd hk2 (hap t ht ht' k hk1)
  ·by_cases ht':t.2=q.2
   ·rw[ht',hsame.1] at hk2;rw[(hoth r hr hr').1] at hk1
    exact absurd hk1 (hap r hr hr' k hk2)
   ·rw[(hoth r hr hr').1] at hk1
    rw[(hoth t ht ht').1] at hk2
    exact h.ap r hr t ht k hk1 hk2
 ·rintro k (rfl | rfl | ⟨r,hr,hk⟩)
  ·exact .inl (.inl rfl)
  ·exact .inl (.inr (.inl rfl))
  ·by_cases hne:r.2=q.2
   ·rw[hne,hsame.1] at hk;rcases hk with rfl | hk
    ·exact .inl (.inr (.inr ⟨q,hq,.inl rfl⟩))
    ·exact (hown k hk).imp (fun g=>.inr (.inr ⟨q,hq,.inr g⟩)) id
   ·rw[(hoth r hr hne).1] at hk
    exact .inl (.inr (.inr ⟨r,hr,hk⟩))
theorem turn_fs {d:Dk}{fs:List (Nm×Nat)}{con:Nat→Fl}{x:Nm}{b:Nat}{f:Fl}(hf:d.fs=fs.map (fun q=>(q.1,con q.2)))(hx:fs.lookup x=some b)(hn:(fs.map (·.1)).Nodup)(hnd:(fs.map (·.2)).Nodup) :
  (d.turn x f).fs=fs.map (fun q=>(q.1,updCon con b f q.2)):=by
 show d.fs.map _=_
 rw[hf,List.map_map];refine List.map_congr_left fun q hq=>?_
 have hxb:=lookup_some hx
 show (if q.1=x then (q.1,f) else (q.1,con q.2))=(q.1,if q.2=b then f else con q.2)
 by_cases he:q.1=x
 ·have h1:=lookup_mem hn hq
  rw[he,hx] at h1;have h2:q.2=b:=(Option.some.inj h1).symm
  rw[if_pos he,if_pos h2]
 ·rw[if_neg he]
  by_cases hb:q.2=b
  ·exfalso
   have:q=(x,b):=by
    have inj:∀ (l:List (Nm×Nat)),(l.map (·.2)).Nodup→∀ a∈l,∀ c∈l,a.2=c.2→a=c:=by
     intro l;induction l with
     | nil=>intro _ a ha;cases ha
     | cons z r ih=>
      intro hz a ha c hc e;rw[List.map_cons,List.nodup_cons] at hz;rcases List.mem_cons.1 ha with ea | ha'
      ·rcases List.mem_cons.1 hc with ec | hc'
       ·rw[ea,ec]
       ·exact absurd (show z.2∈r.map (·.2) from List.mem_map.2 ⟨c,hc',by rw[←e,ea]⟩) hz.1
      ·rcases List.mem_cons.1 hc with ec | hc'
       ·exact absurd (show z.2∈r.map (·.2) from List.mem_map.2 ⟨a,ha',by rw[e,ec]⟩) hz.1
       ·exact ih hz.2 a ha' c hc' e
    exact inj fs hnd q hq _ hxb hb
   exact he (by rw[this])
  ·rw[if_neg hb]
theorem used_turn (x:Nm) (f g:Fl):∀ fs:List (Nm×Fl),(fs.map (·.1)).Nodup→fs.lookup x=some g→
  ((fs.map fun p=>if p.1=x then (p.1,f) else p).map fun p=>p.2.bytes.length).sum+g.bytes.length=(fs.map fun p=>p.2.bytes.length).sum+f.bytes.length
 | (a,c)::r,hn,h=>by
  rw[List.map_cons,List.nodup_cons] at hn;rw[List.lookup_cons] at h;by_cases hxa:x=a
  ·subst hxa;simp at h
   subst h;have hid:(r.map fun p=>if p.1=x then (p.1,f) else p)=r:=by
    conv=>rhs;rw[←List.map_id r]
    refine List.map_congr_left fun p hp=>?_
    rw[if_neg (fun e=>hn.1 (List.mem_map.2 ⟨p,hp,e⟩))]
    rfl
   simp only[List.map_cons,List.sum_cons,hid,if_true]
   omega
  ·have hb:(x==a)=false:=beq_eq_false_iff_ne.2 hxa
   simp only[hb,Bool.false_eq_true,if_false] at h
   have ih:=used_turn x f g r hn.2 h
   simp only[List.map_cons,List.sum_cons,if_neg (fun e:a=x=>hxa e.symm)]
   omega
theorem names_turn (d:Dk) (x:Nm) (f:Fl):(d.turn x f).names=d.names:=by
 unfold Dk.names Dk.turn;rw[List.map_map];refine List.map_congr_left fun p _=>?_
 show (if p.1=x then (p.1,f) else p).1=p.1
 split<;>rfl
theorem Dk.Ok.turn {d:Dk}(h:d.Ok) {x:Nm}{f g:Fl}(hx:d.find x=some g)(hs:f.safe≤f.bytes.length)(hr:d.used+f.bytes.length≤d.room+g.bytes.length):(d.turn x f).Ok:=by
 have hu:=used_turn x f g d.fs h.nodup hx
 refine⟨by rw[names_turn];exact h.nodup,fun p hp=>?_,?_,h.room,?_,h.left,by rw[names_turn];exact h.short⟩
 ·obtain⟨q,hq,rfl⟩:=List.mem_map.1 hp
  show (if q.1=x then (q.1,f) else q).2.safe≤(if q.1=x then (q.1,f) else q).2.bytes.length
  split
  ·exact hs
  ·exact h.safe q hq
 ·show ((d.fs.map fun p=>if p.1=x then (p.1,f) else p).map fun p=>p.2.bytes.length).sum≤d.room
  unfold Dk.used at hr;omega
 ·show (d.fs.map _).length≤200
  rw[List.length_map];exact h.few
theorem bytT:SliceT Tryz.prog 29 5 1 1:=
 ⟨Tryz.underlying29,by
  have h:(Tryz.prog.info? 5).map (fun i=>(i.zero,i.size,i.bytes))=some (some (.int .u8 0),1,1):=by kernel_rfl
  obtain⟨i,hi,hz,h1,h2⟩:=info_parts h
  exact⟨i,_,hi,hz,rfl,h1,h2⟩⟩
theorem wpList_append_slc {P:Program}{ops:Array Oper}{rest:List Oper}{o:Oper}{a:Act}{w:World}{Q:Exit→Act→World→Prop}(hgd:o.guard=none) (s x:Operand) (t u:TypeId)
  (ho:o.op = .call { callee:=.builtin .append,args:=#[s,x],argTypes:=#[t,u] })
  {e:TypeId}{size bytes:Nat}(hT:SliceT P t e size bytes) (d:TypeDesc)(hu:P.underlying u=some d)(hd:∀ k,d≠.int k)
  (v:Value) (n:Nat) (xs:List Value)(hs:a.eval s=v)(hown:SlcRow w e size v n xs)
  (xv:Value) (m:Nat) (news:List Value)(hx:a.eval x=xv)(hsrc:Source P w size xv m news)
  (h63:n+m≤maxLen)(hbytes:(n+m)*bytes≤140737488355328)
  (h:∀ v' w',SlcRow w' e size v' (n+m) (xs++news)→Grewn w w' v v'→wpList P ops Q rest (a.put o.dst v') w'):wpList P ops Q (o::rest) a w:=by
 obtain⟨ht,i,z,hi,hz,hzs,rfl,rfl⟩:=hT
 refine wpList_plain hgd fun K hK=>?_
 obtain⟨v',w',hrun,g1,g2⟩:=run_append_slc (P:=P) w t u o.type e d i z ht hu hd hi hz hzs v n xs hown xv m news hsrc h63 hbytes
 unfold Oper.wp execOp;simp only[ho,resolve,invoke,builtin,Sem.run_bind,Sem.run_pure,Result.andThen_ok,List.map_toArray,List.map_cons,List.map_nil,hs,hx,hrun]
 exact hK _ _ (h v' w' g1 g2)
theorem bytes_keep {S:Nat→Prop}{w w':World}(h:Chg S w w') {a:Option Addr}{l:List UInt8}(hb:BytesAt w a l)(hn:l≠[]→∀ x,a=some x→¬S x.block):BytesAt w' a l:=by
 cases l with
 | nil=>exact fun i hi=>by simp at hi
 | cons y r=>exact h.bytesAt hb (hn (by simp))
theorem at_none {d:Dk}{x:Nm}{g:Fl→Nat×(Dk→Dk)}(h:d.find x=none)(hd:didB d.left=true):d.at x g=(7,d.step):=by
 unfold Dk.at;rw[show d.does=didB d.left from rfl,hd,if_neg (by simp),h]
theorem at_not {d:Dk}{x:Nm}{g:Fl→Nat×(Dk→Dk)}(hd:didB d.left=false):d.at x g=(14,d):=by
 unfold Dk.at;rw[show d.does=didB d.left from rfl,hd,if_pos rfl]
theorem at_some {d:Dk}{x:Nm}{f:Fl}{g:Fl→Nat×(Dk→Dk)}(h:d.find x=some f)(hd:didB d.left=true):d.at x g=((g f).1,(g f).2 d.step):=by
 unfold Dk.at;rw[show d.does=didB d.left from rfl,hd,if_neg (by simp),h]
theorem add_any {w:World} {p:Nat} {S:Nat→Prop} {d:Dk} (h:DiskAt w p S d) (s:ByteArray) (hs:s.size≤4611686018427387904) (ba:Option Addr) (l:List UInt8) (bc:Nat) (hl:l.length≤4611686018427387904)
  (hb:BytesAt w ba l) (hbn:l≠[]→∀ x,ba=some x→¬S x.block) :
  Calls Tryz.prog 8 #[.pointer (some ⟨p,0,none⟩),.string s,.slice ba l.length bc] w fun e w'=>e = .returned (errD (d.add s.data.toList l).1)∧DiskAt w' p (Gr S w w') (d.add s.data.toList l).2∧Chg S w w':=by
 obtain⟨mb,fs,sv,con,hd,hfs,hS,hok⟩:=h
 have HF:=Lib.hid (file_any hd hok.left s (by unfold maxLen;omega))
 have hfind:d.find s.data.toList=(fs.lookup s.data.toList).map con:=by unfold Dk.find;rw[hfs];exact find_map con _ fs
 have HFIND:=Lib.hid hfind
 have HFS:=Lib.hid hfs
 have HS:=Lib.hid hS
 have HOK:=Lib.hid hok
 have HBY:=Lib.hid hb
 have HBN:=Lib.hid (fun hne x hx (hk:x.block=p)=>hbn hne x hx (by rw[hk];exact hS p (.inl rfl)))
 obtain⟨R,hR⟩:∃ R,d.add s.data.toList l=R:=⟨_,rfl⟩
 have HR:=Lib.hid hR
 rw[hR];clear hR hd hfind hfs hS hok hb hbn hs;go_enter Tryz.func8,Tryz.ntmps8
 go_wp2_with (go_at_call 56;refine HF.out.mono ?_)
 rintro e w1 ⟨hfr,hd1,hc1⟩
 have HC1:=Lib.hid hc1
 have HD1:=Lib.hid hd1
 clear hd1 hc1 HF;rcases hfr with ⟨hx,rfl⟩ | ⟨hx,ho,rfl⟩ | ⟨hx,b,ho,rfl⟩
 ·have HX:=Lib.hid hx
  clear hx;go_wp2_with fail;go_ret;have hd1:=HD1.out
  rw[stepL_of HX.out] at hd1
  exact done_mk (n:=14) (d':=d) HS.out rfl hd1 HFS.out (chg_p HC1.out) (fun k hk=>.inl hk) HOK.out (HR.out.symm.trans (at_not HX.out))
 ·have HX:=Lib.hid hx
  have HO:=Lib.hid ho
  clear hx ho;go_wp2_with fail;go_ret;exact done_mk (n:=7) (d':=d.step) HS.out rfl HD1.out HFS.out (chg_p HC1.out) (fun k hk=>.inl hk) HOK.out.step (HR.out.symm.trans (at_none (by rw[HFIND.out,HO.out];rfl) HX.out))
 ·have HX:=Lib.hid hx
  have HO:=Lib.hid ho
  clear hx ho;go_wp2_with fail;have hus:usedOf con (fs.map (·.2))=d.used:=by unfold Dk.used;rw[HFS.out,used_eq]
  have hu1:d.used≤1048576:=Nat.le_trans HOK.out.fits HOK.out.room
  have hf1:fs.length≤200:=by have:=HOK.out.few;rw[HFS.out,List.length_map] at this;exact this
  have HUS:=Lib.hid (fun (w2:World) (hw:Chg Nil w1 w2)=>used_any (HD1.out.chg hw (fun _ _ h=>h)) (by rw[hus];exact hu1) hf1)
  rw[hus] at HUS;have HRC:=Lib.hid (HD1.out.c.cell (j:=1) rfl)
  have hw64:wrap64 ((d.used:Int)+(l.length:Int))=(d.used:Int)+(l.length:Int):=by unfold wrap64;omega
  have HUF:=Lib.hid hus
  have HF200:=Lib.hid hf1
  clear hus hf1;obtain⟨u,hu⟩:∃ u,d.used=u:=⟨_,rfl⟩
  rw[hu] at HUS hw64 hu1 HUF
  have HU:=Lib.hid hu
  obtain⟨rm,hrm⟩:∃ rm,d.room=rm:=⟨_,rfl⟩
  rw[hrm] at HRC;have HRM:=Lib.hid hrm
  clear hu hrm;refine wp_region_mono _ (Chg Nil) (by kernel_rfl) (fun _ _ _ h k=>h.trans k (fun _ h=>h.elim)) [[],[0],[],[2],[1,3],[],[5],[6],[7],[4,8]] rfl (by kernel_rfl) (Chg.refl _ _).drew ?_
  ((with_reducible apply Walk.eq);case h=>(intro w2 hw2 N hN;simp only[depM];go_simp;(try go_bits);with_reducible exact hN _ (Chg.refl _ _)))
  (with_reducible apply Walk.eq);case h=>
   intro w2 hw2 N hN;simp only[depM]
   go_simp;refine (HUS.out w2 hw2).mono ?_
   rintro e w3 ⟨rfl,hc3⟩
   exact⟨_,rfl,hN _ hc3⟩
  iterate 6 ((with_reducible apply Walk.eq);case h=>(intro w2 hw2 N hN;simp only[depM];go_simp;(try go_bits);with_reducible exact hN _ (Chg.refl _ _)))
  (with_reducible apply Walk.eq);case h=>
   intro w2 hw2 N hN;have hq:=hw2.cell HRC.out (fun h=>h)
   simp only[depM]
   go_simp;exact hN _ (Chg.refl _ _)
  ((with_reducible apply Walk.eq);case h=>(intro w2 hw2 N hN;simp only[depM];go_simp;(try go_bits);with_reducible exact hN _ (Chg.refl _ _)))
  intro w2 hw2;simp only[List.nil_append,List.cons_append,Fin]
  go_simp;have HD2:=Lib.hid (HD1.out.chg hw2 (fun _ _ h=>h))
  have HC2:=Lib.hid (HC1.out.trans hw2 (fun _ h=>h.elim))
  have HFD:Hid (d.find s.data.toList=some (con b)):=by unfold Hid;rw[HFIND.out,HO.out];rfl
  clear HUS HRC hw64 hw2 HD1 HC1;by_cases hfull:rm<u+l.length
  ·have hfi:(rm:Int)<(u:Int)+(l.length:Int):=by omega
   have HFU:=Lib.hid hfull
   clear hfull;go_wp2_with fail;go_ret;refine done_mk (n:=12) (d':=d.step) HS.out rfl HD2.out HFS.out (chg_p HC2.out) (fun k hk=>.inl hk) HOK.out.step (HR.out.symm.trans ((at_some HFD.out HX.out).trans ?_))
   have hcond:d.room<d.used+l.length:=by rw[HRM.out,HU.out];exact HFU.out
   simp only[if_pos hcond,id]
  ·have hfi:¬(rm:Int)<(u:Int)+(l.length:Int):=by omega
   have HFU:=Lib.hid hfull
   have hmem:=lookup_some HO.out
   have hrow:SlcRow w2 5 1 (sv b) (con b).bytes.length ((con b).bytes.map bval):=HD2.out.o _ hmem
   have hbx:Box w2 b [sv b,.int .i64 ((con b).safe:Nat)] 110:=HD2.out.f _ hmem
   have HMEM:=Lib.hid hmem
   have HROW:=Lib.hid hrow
   have HBX:=Lib.hid hbx
   have y0:=hbx.cell (j:=0) rfl
   have HLE:Hid ((con b).bytes.length+l.length≤1048576):=by
    have h1:=usedOf_mem (con:=con) (a:=fs.map (·.2)) (List.mem_map.2 ⟨_,hmem,rfl⟩)
    have h2:=HUF.out
    have h3:=HRM.out
    have h4:=HOK.out.room
    have h1':(con b).bytes.length≤usedOf con (fs.map (·.2)):=h1
    unfold Hid;omega
   have HSRC:=Lib.hid (bytes_keep HC2.out HBY.out HBN.out)
   have HRB:Hid (Value.room (sv b)≠some b):=HD2.out.p_ne.2.2 _ hmem _ hmem
   clear hfull hmem hrow hbx;go_wp2_with (at_builtin;go_must (refine wpList_append_slc rfl (.tmp 33) (.tmp 34) 29 29 rfl bytT _ Tryz.underlying29 (by intro _;simp) (sv b) _ _ rfl HROW.out _ l.length (l.map bval) rfl (Source.bytes HSRC.out) (by have:=HLE.out;unfold maxLen;omega) (by have:=HLE.out;omega) ?_);intro v3 w3 hrow3 hg3;have hb3:=HBX.out.chg hg3.chg (fun e=>HRB.out e);have y3:=hb3.cell (j:=0) rfl;have z3:=hb3.free 0;have HB3:=Lib.hid hb3;have HROW3:=Lib.hid hrow3;have HG3:=Lib.hid hg3;obtain⟨a3,c3,rfl,_,_⟩:=hrow3.form;clear hrow3 hg3 hb3)
   go_ret;have hnr:Value.room (.slice a3 ((con b).bytes.length+l.length) c3)≠some b:=fun e=>by
    obtain⟨cur,hcur⟩:=HROW3.out.row b e
    have h1:w3.heap[b]? = _:=HB3.out
    rw[h1] at hcur;cases hcur
   have hset:Chg (fun k=>k=b) w3 (w3.setCell ⟨b,0,none⟩ (.slice a3 ((con b).bytes.length+l.length) c3)):=Chg.setCell (S:=fun k=>k=b) (p:=⟨b,0,none⟩) (Chg.refl _ w3) (.inl rfl) _
   have hrow4:=HROW3.out.chg hset (fun k hk e=>hnr (by rw[hk,e]))
   have hflen:((con b).bytes++l).length=(con b).bytes.length+l.length:=List.length_append
   rw[←hflen,←List.map_append] at hrow4;rw[←hflen] at hset;obtain⟨g1,g2,g3⟩:=HD2.out.turn (q:=(s.data.toList,b)) HMEM.out (.slice a3 ((con b).bytes++l).length c3) ⟨(con b).bytes++l,(con b).safe⟩ (HB3.out.set 0 _) hrow4
    ((HG3.out.chg.weak (fun k hk=>.inl (.inr hk))).trans hset (fun k hk=>.inl (.inl hk))) (fun k hk=>HG3.out.own k (by rw[←hflen];exact hk))
   have hsz:=HC2.out.size
   rw[←hflen];refine done_mk (n:=0) (d':=d.step.turn s.data.toList ⟨(con b).bytes++l,(con b).safe⟩) HS.out rfl g1 ?_ ((chg_p HC2.out).trans g2 (fun _ h=>.inl h)) (fun k hk=>(g3 k hk).imp id (fun h=>by omega)) ?_ (HR.out.symm.trans ((at_some HFD.out HX.out).trans ?_))
   ·exact turn_fs (d:=d.step) HFS.out HO.out HD2.out.m.1 HD2.out.nd
   ·refine HOK.out.step.turn (x:=s.data.toList) (g:=con b) HFD.out ?_ ?_
    ·have:=HOK.out.safe (s.data.toList,con b) (lookup_some HFD.out)
     have h2:(con b).safe≤(con b).bytes.length:=this
     show (con b).safe≤((con b).bytes++l).length
     omega
    ·show d.used+((con b).bytes++l).length≤d.room+(con b).bytes.length
     have:=HFU.out
     have h1:=HU.out
     have h2:=HRM.out
     omega
   ·have hcond:¬d.room<d.used+l.length:=by rw[HRM.out,HU.out];exact HFU.out
    simp only[if_neg hcond]
end Go.Proofs.YtobegmcbfgnpnaaGreatDoor
