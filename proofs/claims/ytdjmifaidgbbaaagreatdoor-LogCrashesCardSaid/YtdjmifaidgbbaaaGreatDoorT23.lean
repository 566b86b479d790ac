/-
  What Compact asks of each record. (Of the logs' seat.)
-/
import Derived.Test.YtdjmifaidgbbaaaGreatDoorT22
set_option linter.unusedVariables false
set_option linter.unusedSimpArgs false
set_option maxHeartbeats 0
set_option maxRecDepth 200000
namespace Go.Proofs.YtdjmifaidgbbaaaGreatDoor
open Go.RowKit Go.Maps
def goneR (fs:List (Nm×Int)) (lim:Int) (r:Rec):Bool:=r.keyed&&(decide (r.off<(fs.lookup r.key.data.toList).getD 0)||(r.gone&&decide (r.time<lim)))
structure GcW (w:World) (bm bn ba bk mb:Nat) (now age:Int) (k:Nat) (fs:List (Nm×Int)):Prop where
 m:Box w bm [.map (some mb)] 49
 n:Box w bn [.int .i64 now] 3
 a:Box w ba [.int .i64 age] 3
 k:Box w bk [.int .i64 (k:Nat)] 3
 mp:NumsAt w mb fs
 ne:bk≠bm∧bk≠bn∧bk≠ba∧bk≠mb
theorem GcW.nil {S:Nat→Prop}{w w':World}{bm bn ba bk mb:Nat}{now age:Int}{k:Nat}{fs:List (Nm×Int)}(h:GcW w bm bn ba bk mb now age k fs)(hc:Chg S w w')(hn:∀ i,(i=bm∨i=bn∨i=ba∨i=bk∨i=mb)→¬S i):GcW w' bm bn ba bk mb now age k fs:=
 ⟨h.m.chg hc (hn _ (.inl rfl)),h.n.chg hc (hn _ (.inr (.inl rfl))),h.a.chg hc (hn _ (.inr (.inr (.inl rfl)))),h.k.chg hc (hn _ (.inr (.inr (.inr (.inl rfl))))),h.mp.chg hc (hn _ (.inr (.inr (.inr (.inr rfl))))),h.ne⟩
theorem GcW.more {w w':World}{bm bn ba bk mb:Nat}{now age:Int}{k k':Nat}{fs:List (Nm×Int)}(h:GcW w bm bn ba bk mb now age k fs)(hc:Chg (fun i=>i=bk) w w')(hb:Box w' bk [.int .i64 (k':Nat)] 3):GcW w' bm bn ba bk mb now age k' fs:=
 ⟨h.m.chg hc (fun e=>h.ne.1 e.symm),h.n.chg hc (fun e=>h.ne.2.1 e.symm),h.a.chg hc (fun e=>h.ne.2.2.1 e.symm),hb,h.mp.chg hc (fun e=>h.ne.2.2.2 e.symm),h.ne⟩
def cntB (b:Bool):Nat:=if b=true then 1 else 0
def askF (bm bn ba bk:Nat):Value:=.func (.func 67) #[] #[.pointer (some ⟨bm,0,none⟩),.pointer (some ⟨bn,0,none⟩),.pointer (some ⟨ba,0,none⟩),.pointer (some ⟨bk,0,none⟩)]
theorem gone_any {w:World} {bm bn ba bk mb:Nat} {now age:Int} {k:Nat} {fs:List (Nm×Int)} (h:GcW w bm bn ba bk mb now age k fs) (hk:k≤1000000) (r:Rec) (hr:r.key.size≤maxLen) :
  Calls Tryz.prog 67 #[.agg r.cells.toArray,.pointer (some ⟨bm,0,none⟩),.pointer (some ⟨bn,0,none⟩),.pointer (some ⟨ba,0,none⟩),.pointer (some ⟨bk,0,none⟩)] w fun e w'=>
   e = .returned (.bool (goneR fs (wrap64 (now-age)) r))∧GcW w' bm bn ba bk mb now age (k+cntB (goneR fs (wrap64 (now-age)) r)) fs∧Chg (fun i=>i=bk) w w':=by
 obtain⟨ro,rt,rk,rkey,rg,rval⟩:=r
 have earr:(Rec.cells ⟨ro,rt,rk,rkey,rg,rval⟩).toArray = #[.int .i64 ro,.int .i64 rt,.bool rk,.string rkey,.bool rg,.string rval]:=rfl
 rw[earr];clear earr;have hal:Chg Nil w (w.alloc (.cells #[.int .i64 ro,.int .i64 rt,.bool rk,.string rkey,.bool rg,.string rval] 37)):=(Chg.refl Nil w).alloc _
 have hbx:=Box.new w [.int .i64 ro,.int .i64 rt,.bool rk,.string rkey,.bool rg,.string rval] 37
 have hg:=h.nil hal (fun _ _ h=>h)
 have hbx:Box (w.alloc (.cells #[.int .i64 ro,.int .i64 rt,.bool rk,.string rkey,.bool rg,.string rval] 37)) w.heap.size [.int .i64 ro,.int .i64 rt,.bool rk,.string rkey,.bool rg,.string rval] 37:=hbx
 have hlk:=hg.mp.look (s:=rkey) hr
 have cm:=hg.m.cell (j:=0) rfl
 have cn:=hg.n.cell (j:=0) rfl
 have ca:=hg.a.cell (j:=0) rfl
 have ck:=hg.k.cell (j:=0) rfl
 have fk:=hg.k.free 0
 have y0:=hbx.cell (j:=0) rfl
 have y1:=hbx.cell (j:=1) rfl
 have y2:=hbx.cell (j:=2) rfl
 have y3:=hbx.cell (j:=3) rfl
 have y4:=hbx.cell (j:=4) rfl
 have HG:=Lib.hid hg
 have HAL:=Lib.hid hal
 obtain⟨lv,hlv⟩:∃ lv,(fs.lookup rkey.data.toList).getD 0=lv:=⟨_,rfl⟩
 obtain⟨lim,hlim⟩:∃ lim,wrap64 (now-age)=lim:=⟨_,rfl⟩
 rw[hlv] at hlk;have HGO:Hid (goneR fs (wrap64 (now-age)) ⟨ro,rt,rk,rkey,rg,rval⟩=(rk&&(decide (ro<lv)||(rg&&decide (rt<lim))))):=by unfold Hid goneR;rw[←hlv,←hlim]
 rw[HGO.out];have HST:Hid (∀ w1,GcW w1 bm bn ba bk mb now age k fs→Chg Nil w w1→GcW (w1.setCell ⟨bk,0,none⟩ (.int .i64 ((k:Int)+1))) bm bn ba bk mb now age (k+1) fs∧Chg (fun i=>i=bk) w (w1.setCell ⟨bk,0,none⟩ (.int .i64 ((k:Int)+1)))):=fun w1 h1 hc1=>by
  have hset:Chg (fun i=>i=bk) w1 (w1.setCell ⟨bk,0,none⟩ (.int .i64 ((k:Int)+1))):=(Chg.refl (fun i=>i=bk) _).setCell (.inl rfl) _
  exact⟨h1.more hset (h1.k.set 0 _),(hc1.weak (fun _ h=>h.elim)).trans hset (fun i hi=>.inl hi)⟩
 clear h hg hal hbx hlv hr;have hkb:(k:Int)≤1000000:=by omega
 cases rk with
 | false=>
  go_enter Tryz.func67,Tryz.ntmps67
  go_upto_region 1 with fail;generalize w.alloc (.cells #[.int .i64 ro,.int .i64 rt,.bool false,.string rkey,.bool rg,.string rval] 37)=w1 at *
  generalize w.heap.size=gr at *;go_wp2_with fail;go_ret;exact⟨rfl,HG.out,HAL.out.weak (fun _ h=>h.elim)⟩
 | true=>
  by_cases hlt:ro<lv
  ·have HD:=Lib.hid (decide_eq_true hlt)
   rw[show (true&&(decide (ro<lv)||(rg&&decide (rt<lim))))=true by rw[HD.out];rfl]
   go_enter Tryz.func67,Tryz.ntmps67
   go_upto_region 1 with fail;generalize w.alloc (.cells #[.int .i64 ro,.int .i64 rt,.bool true,.string rkey,.bool rg,.string rval] 37)=w1 at *
   generalize w.heap.size=gr at *;go_wp2_with fail;go_ret;obtain⟨h1,h2⟩:=HST.out _ HG.out HAL.out
   exact⟨rfl,h1,h2⟩
  ·have HD:=Lib.hid (decide_eq_false hlt)
   cases rg with
   | false=>
    rw[show (true&&(decide (ro<lv)||(false&&decide (rt<lim))))=false by rw[HD.out];rfl]
    go_enter Tryz.func67,Tryz.ntmps67
    go_upto_region 1 with fail;generalize w.alloc (.cells #[.int .i64 ro,.int .i64 rt,.bool true,.string rkey,.bool false,.string rval] 37)=w1 at *
    generalize w.heap.size=gr at *;go_wp2_with fail;go_ret;exact⟨rfl,HG.out,HAL.out.weak (fun _ h=>h.elim)⟩
   | true=>
    by_cases htl:rt<lim
    ·have HD2:=Lib.hid (decide_eq_true htl)
     rw[show (true&&(decide (ro<lv)||(true&&decide (rt<lim))))=true by rw[HD.out,HD2.out];rfl]
     go_enter Tryz.func67,Tryz.ntmps67
     go_upto_region 1 with fail;generalize w.alloc (.cells #[.int .i64 ro,.int .i64 rt,.bool true,.string rkey,.bool true,.string rval] 37)=w1 at *
     generalize w.heap.size=gr at *;go_wp2_with fail;go_ret;obtain⟨h1,h2⟩:=HST.out _ HG.out HAL.out
     exact⟨rfl,h1,h2⟩
    ·have HD2:=Lib.hid (decide_eq_false htl)
     rw[show (true&&(decide (ro<lv)||(true&&decide (rt<lim))))=false by rw[HD.out,HD2.out];rfl]
     go_enter Tryz.func67,Tryz.ntmps67
     go_upto_region 1 with fail;generalize w.alloc (.cells #[.int .i64 ro,.int .i64 rt,.bool true,.string rkey,.bool true,.string rval] 37)=w1 at *
     generalize w.heap.size=gr at *;go_wp2_with fail;go_ret;exact⟨rfl,HG.out,HAL.out.weak (fun _ h=>h.elim)⟩
def IdxAt (bm bn ba bk mb:Nat) (now age:Int) (k:Nat) (fs:List (Nm×Int)) (rs:List Rec) (e:Ending) (w':World):Prop:=
 ((∀ r∈rs,goneR fs (wrap64 (now-age)) r=false)∧e = .returned (.int .i64 (-1))∧GcW w' bm bn ba bk mb now age k fs)∨
 (∃ i:Nat,∃ hi:i<rs.length,goneR fs (wrap64 (now-age)) rs[i]=true∧(∀ r∈rs.take i,goneR fs (wrap64 (now-age)) r=false)∧e = .returned (.int .i64 (i:Nat))∧GcW w' bm bn ba bk mb now age (k+1) fs)
theorem idx_any {w:World} {bm bn ba bk mb:Nat} {now age:Int} {k:Nat} {fs:List (Nm×Int)} (h:GcW w bm bn ba bk mb now age k fs) (hk:k≤900000) (ra:Option Addr) (rs:List Rec) (rc:Nat) (hrs:RecsAt w ra rs) (hl:rs.length≤1000) (hok:∀ r∈rs,r.key.size≤maxLen) (hn:rs≠[]→∀ x,ra=some x→¬x.block=bk) :
  Calls Tryz.prog 106 #[.slice ra rs.length rc,askF bm bn ba bk] w fun e w'=>IdxAt bm bn ba bk mb now age k fs rs e w'∧Chg (fun i=>i=bk) w w':=by
 have HH:=Lib.hid h
 have HRS:=Lib.hid hrs
 have HOK:=Lib.hid hok
 have HN:=Lib.hid hn
 have HK:=Lib.hid hk
 clear h hrs hok hn hk;unfold askF;go_enter Tryz.func106,Tryz.ntmps106
 go_wp2_with fail;go_loopw [8] (fun iv wr=>∃ (wq:World) (i:Nat),wq=wr∧i≤rs.length∧iv = .int .i64 i∧GcW wr bm bn ba bk mb now age k fs∧Hid (∀ r∈rs.take i,goneR fs (wrap64 (now-age)) r=false)∧Chg (fun j=>j=bk) w wr) (fun iv _=>rs.length-(RowKit.intOf iv).toNat)
 case atStart=>exact⟨_,0,rfl,Nat.zero_le _,rfl,HH.out,fun r hr=>(by simp at hr),Chg.refl _ _⟩
 case round=>
  obtain⟨wr,i,rfl,hi,rfl,hg,hno,hc⟩:=hrel
  have HG:=Lib.hid hg
  have HNO:Hid _:=hno
  have HC:=Lib.hid hc
  clear hg hno hc;by_cases hil:i<rs.length
  ·have hii:(i:Int)<(rs.length:Int):=by omega
   have hrs2:RecsAt wr ra rs:=RecsAt.chg' HRS.out HC.out (fun h0 x hx e=>HN.out h0 x hx e)
   obtain⟨rb,off,hra,hcell0⟩:=hrs2 i hil
   subst hra;obtain⟨q,hq⟩:∃ q:Rec,rs[i]=q:=⟨_,rfl⟩
   have hcell:∀ j u,(q.cells)[j]? = some u→wr.cell? ⟨rb,off+i*6+j,none⟩=some u:=by rw[←hq];exact hcell0
   clear hcell0;have HGA:=Lib.hid (gone_any HG.out (by have:=HK.out;omega) q (HOK.out q (by rw[←hq];exact List.getElem_mem hil)))
   have HSN:Hid (goneR fs (wrap64 (now-age)) q=false→∀ r∈rs.take (i+1),goneR fs (wrap64 (now-age)) r=false):=fun h0 r hr=>by
    rw[List.take_succ_eq_append_getElem hil] at hr
    rcases List.mem_append.1 hr with hr | hr
    ·exact HNO.out r hr
    ·rw[List.mem_singleton.1 hr,hq];exact h0
   have HQ:Hid (∀ hi:i<rs.length,rs[i]=q):=fun _=>hq
   have HIL:=Lib.hid hil
   clear hq hil hrs2;obtain⟨gq,hgq⟩:∃ gq,goneR fs (wrap64 (now-age)) q=gq:=⟨_,rfl⟩
   rw[hgq] at HGA HSN
   have HGQ:=Lib.hid hgq
   clear hgq;obtain⟨qo,qt,qk,qkey,qg,qv⟩:=q
   have earr:(Rec.cells ⟨qo,qt,qk,qkey,qg,qv⟩).toArray = #[.int .i64 qo,.int .i64 qt,.bool qk,.string qkey,.bool qg,.string qv]:=rfl
   rw[earr] at HGA;clear earr;have z0:=hcell 0 _ rfl
   have z1:=hcell 1 _ rfl
   have z2:=hcell 2 _ rfl
   have z3:=hcell 3 _ rfl
   have z4:=hcell 4 _ rfl
   have z5:=hcell 5 _ rfl
   rw[Nat.add_zero] at z0;clear hcell;go_wp2_with fail;refine HGA.out.mono ?_
   rintro e w5 ⟨rfl,hg5,hc5⟩
   have HG5:=Lib.hid hg5
   have HC5:=Lib.hid (HC.out.trans hc5 (fun j hj=>.inl hj))
   clear hg5 hc5 HGA z0 z1 z2 z3 z4 z5;cases gq with
   | true=>
    go_wp2_with fail;go_ret;refine⟨.inr ⟨i,HIL.out,by rw[HQ.out HIL.out];exact HGQ.out,HNO.out,rfl,HG5.out⟩,HC5.out⟩
   | false=>
    have HNX:=Lib.hid (HSN.out rfl)
    go_wp2_with fail;go_roundw
    case rel=>exact⟨_,i+1,rfl,HIL.out,by go_num,HG5.out,HNX.out,HC5.out⟩
    case measure=>exact meas_two HIL.out
  ·have hii:¬(i:Int)<(rs.length:Int):=by omega
   have HALL:Hid (∀ r∈rs,goneR fs (wrap64 (now-age)) r=false):=by
    have h1:=HNO.out
    rw[List.take_of_length_le (by omega)] at h1
    exact h1
   go_wp2_with fail;go_ret;exact⟨.inl ⟨HALL.out,rfl,HG.out⟩,HC.out⟩
theorem ownsRow_set {w:World}{base:Nat}{e:TypeId}{size g n cap m:Nat}{xs:List Value}(h:w.ownsRow base e size (.slice (some ⟨g,0,none⟩) n cap) m xs) (j:Nat)(hj:j<xs.length) (u:Value):(w.setCell ⟨g,j,none⟩ u).ownsRow base e size (.slice (some ⟨g,0,none⟩) n cap) m (xs.set j u):=by
 rcases h.2 with ⟨hv,_⟩ | ⟨g',cap',cur,hv,hb,hg,hle,hcm,hcs,ht⟩
 ·cases hv
 ·obtain⟨ha,hn,hc⟩:=Value.slice.inj hv
  obtain rfl:g=g':=by have:=Option.some.inj ha;exact (Addr.mk.inj this).1
  subst hn hc;refine⟨by rw[List.length_set];exact h.1,.inr ⟨g,cap,cur.setIfInBounds j u,rfl,hb,?_,hle,hcm,by simpa using hcs,?_⟩⟩
  ·simp only[World.setCell,Array.getElem?_modify,if_true,hg,Option.map_some]
   simp
  ·rw[Array.toList_setIfInBounds,List.take_set,ht]
theorem flat_set:∀ (X:List Rec) (i:Nat),i<X.length→∀ r:Rec,((((((X.flatMap Rec.cells).set (i*6) (.int .i64 r.off)).set (i*6+1) (.int .i64 r.time)).set (i*6+2) (.bool r.keyed)).set (i*6+3) (.string r.key)).set (i*6+4) (.bool r.gone)).set (i*6+5) (.string r.value)=(X.set i r).flatMap Rec.cells
 | [],i,hi,r=>by simp at hi
 | a::X,0,hi,r=>by
  obtain⟨ao,at',ak,akey,ag,av⟩:=a
  rfl
 | a::X,i+1,hi,r=>by
  have ih:=flat_set X i (by simpa using hi) r
  have hl:a.cells.length=6:=rfl
  have e:∀ t,(i+1)*6+t=a.cells.length+(i*6+t):=fun t=>by rw[hl];omega
  have e0:(i+1)*6=a.cells.length+i*6:=by rw[hl];omega
  have key:∀ (l:List Value) (t:Nat) (u:Value),(a.cells++l).set (a.cells.length+t) u=a.cells++l.set t u:=fun l t u=>by
   rw[List.set_append,if_neg (by omega),Nat.add_sub_cancel_left]
  rw[List.flatMap_cons,List.set_cons_succ,List.flatMap_cons,e 1,e 2,e 3,e 4,e 5,e0,key,key,key,key,key,key,ih]
theorem OwnR.put {w:World}{e:TypeId}{g n cap:Nat}{X:List Rec}(h:OwnR e w (.slice (some ⟨g,0,none⟩) n cap) X) (i:Nat)(hi:i<X.length) (r:Rec) :
  OwnR e ((((((w.setCell ⟨g,i*6,none⟩ (.int .i64 r.off)).setCell ⟨g,i*6+1,none⟩ (.int .i64 r.time)).setCell ⟨g,i*6+2,none⟩ (.bool r.keyed)).setCell ⟨g,i*6+3,none⟩ (.string r.key)).setCell ⟨g,i*6+4,none⟩ (.bool r.gone)).setCell ⟨g,i*6+5,none⟩ (.string r.value)) (.slice (some ⟨g,0,none⟩) n cap) (X.set i r):=by
 have hl:(X.flatMap Rec.cells).length=X.length*6:=fm_len (f:=Rec.cells) (n:=6) (fun _=>rfl) X
 have h1:=ownsRow_set h (i*6) (by omega) (.int .i64 r.off)
 have h2:=ownsRow_set h1 (i*6+1) (by rw[List.length_set];omega) (.int .i64 r.time)
 have h3:=ownsRow_set h2 (i*6+2) (by rw[List.length_set,List.length_set];omega) (.bool r.keyed)
 have h4:=ownsRow_set h3 (i*6+3) (by rw[List.length_set,List.length_set,List.length_set];omega) (.string r.key)
 have h5:=ownsRow_set h4 (i*6+4) (by rw[List.length_set,List.length_set,List.length_set,List.length_set];omega) (.bool r.gone)
 have h6:=ownsRow_set h5 (i*6+5) (by rw[List.length_set,List.length_set,List.length_set,List.length_set,List.length_set];omega) (.string r.value)
 unfold OwnR;rw[List.length_set,←flat_set X i hi r]
 exact h6
theorem put_chg (w:World) (g:Nat) (a b c d e f:Nat) (u0 u1 u2 u3 u4 u5:Value):Chg (fun k=>k=g) w ((((((w.setCell ⟨g,a,none⟩ u0).setCell ⟨g,b,none⟩ u1).setCell ⟨g,c,none⟩ u2).setCell ⟨g,d,none⟩ u3).setCell ⟨g,e,none⟩ u4).setCell ⟨g,f,none⟩ u5):=
 ((((((Chg.refl (fun k=>k=g) w).setCell (.inl rfl) _).setCell (.inl rfl) _).setCell (.inl rfl) _).setCell (.inl rfl) _).setCell (.inl rfl) _).setCell (.inl rfl) _
theorem zeroRec (w:World):(zeroValue 37).run Tryz.prog w = .ok (.agg #[.int .i64 0,.int .i64 0,.bool false,.string ⟨#[]⟩,.bool false,.string ⟨#[]⟩]) w:=by kernel_rfl
theorem clear_recs {w:World}{g o n c:Nat}{cur:Array Value}(hg:w.heap[g]? = some (.cells cur 37 (0,0)))(hs:o+n*6≤cur.size)(hn:0<n):∃ vs:List Value,vs.length=n*6∧
  ∀ ty,(Builtin.clear_ #[33] ty #[.slice (some ⟨g,o,none⟩) n c]).run Tryz.prog w = .ok (.tuple #[]) (w.setRow g (cur.toList.take o++vs++cur.toList.drop (o+vs.length)).toArray):=by
 obtain⟨zc,hzc⟩:∃ zc:Array Value,#[.int .i64 0,.int .i64 0,.bool false,.string ⟨#[]⟩,.bool false,.string ⟨#[]⟩]=zc:=⟨_,rfl⟩
 have hz6:zc.size=6:=by rw[←hzc];rfl
 have h1:∀ v∈(Builtin.zeroCells zc n).toList,v.oneCell'=true:=by
  intro v hv;unfold Builtin.zeroCells at hv;rw[Array.toList_map] at hv;obtain⟨i,_,rfl⟩:=List.mem_map.1 hv
  have h6:i % zc.size<6:=by rw[hz6];exact Nat.mod_lt _ (by omega)
  have key:∀ t,t<6→(zc[t]!).oneCell'=true:=by
   intro t ht;rw[←hzc];match t,ht with
   | 0,_=>rfl
   | 1,_=>rfl
   | 2,_=>rfl
   | 3,_=>rfl
   | 4,_=>rfl
   | 5,_=>rfl
  exact key _ h6
 have hl:(Builtin.zeroCells zc n).toList.length=n*6:=by unfold Builtin.zeroCells;simp[hz6]
 refine⟨(Builtin.zeroCells zc n).toList,hl,fun ty=>?_⟩
 have hst:=run_storeCells_at (P:=Tryz.prog) g o 37 (Builtin.zeroCells zc n).toList 0 cur w hg (by rw[hl];omega) h1
 obtain⟨m,rfl⟩:∃ m,n=m+1:=⟨n-1,by omega⟩
 have hcl:(Value.agg #[.int .i64 0,.int .i64 0,.bool false,.string ⟨#[]⟩,.bool false,.string ⟨#[]⟩]).cells=zc:=by rw[←hzc];rfl
 simp only[Nat.add_zero] at hst
 simp[Builtin.clear_,run_underlying Tryz.underlying33,zeroRec,hcl,hst]
theorem OwnR.cleared {w:World}{e:TypeId}{g n cap i:Nat}{X:List Rec}{cur:Array Value}(h:OwnR e w (.slice (some ⟨g,0,none⟩) n cap) X)(hg:w.heap[g]? = some (.cells cur e (0,0)))(hi:i≤X.length) (vs:List Value)(hv:i*6+vs.length≤cur.size) :
  OwnR e (w.setRow g (cur.toList.take (i*6)++vs++cur.toList.drop (i*6+vs.length)).toArray) (.slice (some ⟨g,0,none⟩) i cap) (X.take i):=by
 rcases h.2 with ⟨hv,_⟩ | ⟨g',cap',cur',hv',hb,hg',hle,hcm,hcs,ht⟩
 ·cases hv
 ·obtain⟨ha,hn,hc⟩:=Value.slice.inj hv'
  obtain rfl:g=g':=by have:=Option.some.inj ha;exact (Addr.mk.inj this).1
  rw[hg] at hg';obtain rfl:=(Obj.cells.inj (Option.some.inj hg')).1
  subst hc;have htl:(X.take i).length=i:=by rw[List.length_take];omega
  refine⟨by rw[htl,fm_len (f:=Rec.cells) (n:=6) (fun _=>rfl),htl],.inr ⟨g,cap,_,by rw[htl],hb,setRow_heap w g cur _ _ _ hg,by rw[htl];omega,hcm,?_,?_⟩⟩
  ·simp only[List.size_toArray,List.length_append,List.length_take,List.length_drop,Array.length_toList]
   omega
  ·rw[htl];have e1:(X.take i).flatMap Rec.cells=(X.flatMap Rec.cells).take (i*6):=by
    have e2:X.flatMap Rec.cells=(X.take i).flatMap Rec.cells++(X.drop i).flatMap Rec.cells:=by rw[←List.flatMap_append,List.take_append_drop]
    rw[e2,List.take_left' (by rw[fm_len (f:=Rec.cells) (n:=6) (fun _=>rfl),htl])]
   rw[e1,←ht,List.take_take,List.append_assoc];have e3:(cur.toList.take (i*6)).length=i*6:=by rw[List.length_take,Array.length_toList];omega
   show (cur.toList.take (i*6)++(vs++_)).take (i*6)=_
   rw[List.take_left' e3,Nat.min_eq_left (by have:X.length*6 ≥ i*6:=Nat.mul_le_mul_right _ hi;omega)]
theorem setRow_chg (w:World) (g:Nat) (cs:Array Value):Chg (fun k=>k=g) w (w.setRow g cs):=
 ⟨rfl,rfl,rfl,by rw[size_setRow];exact Nat.le_refl _,fun k _ hn=>setRow_other w g k cs hn⟩
end Go.Proofs.YtdjmifaidgbbaaaGreatDoor
