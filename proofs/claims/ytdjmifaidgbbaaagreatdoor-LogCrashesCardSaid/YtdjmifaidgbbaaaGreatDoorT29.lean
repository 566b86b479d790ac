/-
  A log, and what it has, where the disk does not fail. (Of the logs' seat.)
-/
import Derived.Test.YtdjmifaidgbbaaaGreatDoorT26
import Derived.Test.YtdjmifaidgbbaaaGreatDoorT28
import Derived.Shelf.SlicesE.Delete
set_option linter.unusedVariables false
set_option linter.unusedSimpArgs false
set_option maxHeartbeats 0
set_option maxRecDepth 200000
namespace Go.Proofs.YtdjmifaidgbbaaaGreatDoor
open Go.RowKit Go.Maps
theorem LgS.growC {B:Nat→Prop}{w w':World}{p l:Nat}{S:Nat→Prop}{sv:Value}{ss:List (Nat×Value)}{d:Dk}{g:Lg}(h:LgS B w p l S sv ss d g)(hc:Chg B w w'):LgS (fun k=>B k∨(w.heap.size≤k∧k<w'.heap.size)) w' p l S sv ss d g:=by
 have hz:=hc.size
 refine⟨fun k hk=>hk.elim (fun hb=>Nat.lt_of_lt_of_le (h.lo k hb) hz) (·.2),h.a.chg hc (fun k hk hb=>(h.sl k hk).1 hb),h.c.chg hc (fun hb=>(h.lb l (.inl rfl)).1 hb),ownsRow_chg h.o hc (fun k hk hb=>(h.lb k (.inr hk)).1 hb),h.len,fun i hi=>(h.m i hi).chg hc (fun k hk hb=>h.tb k (THas.of hi hk) hb),
  fun k hk=>⟨?_,(h.sl k hk).2.1,(h.sl k hk).2.2.1,Nat.lt_of_lt_of_le (h.sl k hk).2.2.2 hz⟩,fun k hk=>⟨?_,(h.lb k hk).2⟩,fun k hk=>?_,h.apart⟩
 ·rintro (hb | hb)
  ·exact (h.sl k hk).1 hb
  ·have:=(h.sl k hk).2.2.2;omega
 ·rintro (hb | hb)
  ·exact (h.lb k hk).1 hb
  ·have:=h.lt.1 k hk;omega
 ·rintro (hb | hb)
  ·exact h.tb k hk hb
  ·have:=h.lt.2 k hk;omega
def LgI (B:Nat→Prop) (w:World) (p l r m:Nat) (g:Lg) (xs:List SgB):Prop:=
 ∃ S sv ss d,LgS B w p l S sv ss d g∧LgOk d g xs∧d.left = -1∧g.down=false∧d.room=r∧d.used≤6000*m∧d.fs.length≤m+1∧xs.length≤m+1
theorem LgI.nil {B:Nat→Prop}{w w':World}{p l r m:Nat}{g:Lg}{xs:List SgB}(h:LgI B w p l r m g xs)(hc:Chg Nil w w'):LgI B w' p l r m g xs:=by
 obtain⟨S,sv,ss,d,h1,h2⟩:=h
 exact⟨S,sv,ss,d,h1.nil hc,h2⟩
theorem LgS.need {B:Nat→Prop}{w:World}{p l:Nat}{S:Nat→Prop}{sv:Value}{ss:List (Nat×Value)}{d:Dk}{g:Lg}{xs:List SgB}(h:LgS B w p l S sv ss d g)(hk:LgOk d g xs)(hx:xs.length≤9999)(hdir:g.dir.length≤100)(hH:Handle w)(hB:B 0):LgN B w ss g:=by
 have hl:ss.length=xs.length:=by rw[h.len,hk.len]
 obtain⟨ys,x,hxs,hlast,_⟩:=hk.lastAt
 have hxm:x∈xs:=by rw[hxs];simp
 have hin:=hk.each x hxm
 have hfw:=hk.few x hxm
 refine⟨by rw[hl];exact hk.pos,by omega,by rw[hlast];omega,?_,?_,hH,hB⟩
 ·obtain⟨sf,hf⟩:=hin.fl
  have h2:=used_le hf
  have h3:=hk.ok.fits
  have h4:=hk.ok.room
  have h2:(batBs x.2).length≤d.used:=h2
  rw[hlast,hin.of.size];omega
 ·rw[hlast,hin.nm];exact segName_len ⟨g.dir.toArray⟩ _ (by show g.dir.toArray.size≤100;simp;exact hdir) (by have:=hin.hi;omega)
theorem LgI.add {B:Nat→Prop}{w:World}{p l r m:Nat}{g:Lg}{xs:List SgB}(h:LgI B w p l r m g xs)(hH:Handle w)(hB:B 0)(hT:Tabs w)(hTB:TabB B)(hdir:g.dir.length≤100)(hm:m≤150)(hr:6000*(m+1)≤r)
  (a:Option Addr) (rs:List Rec) (cap:Nat)(hl:rs.length≤100)(hok:∀ r∈rs,Rec.Ok r)(hc:RecsAt w a rs) :
  Calls Tryz.prog 12 #[.pointer (some ⟨l,0,none⟩),.slice a rs.length cap] w fun e w'=>
   e = .returned (addV g.stop (encErr g.stop (g.stop+rs.length) (numbered g.stop rs)))∧
   (encErr g.stop (g.stop+rs.length) (numbered g.stop rs)≠0→LgI B w' p l r (m+1) g xs)∧
   (encErr g.stop (g.stop+rs.length) (numbered g.stop rs)=0→∃ g' xs',LgI B w' p l r (m+1) g' xs'∧allBts xs'=allBts xs++[⟨g.stop,g.stop+rs.length,numbered g.stop rs⟩]∧g'.dir=g.dir∧g'.most=g.most∧g'.start=g.start∧g'.stop=g.stop+rs.length)∧Chg (Off B) w w':=by
 obtain⟨S,sv,ss,d,h1,h2,h3,h4,h5,h6,h7,h8⟩:=h
 have hst:=h2.stopAt
 have hn:=h1.need h2 (by omega) hdir hH hB
 have hnum:∀ r∈(g.batch rs).rs,Rec.Ok r:=numbered_ok' (by omega) (by omega) hok
 have hA:=ladd_any h1 hn hT hTB hdir (by rw[h1.len,h2.len];omega) g.stop rfl hst a rs cap hl hok hc
 obtain⟨k1,k2⟩:=add_ok h2 h3 h4 rs hnum (by omega) (by omega)
 refine hA.mono ?_
 rintro e w' ⟨he,⟨S',sv',ss',h9,_⟩,hch⟩
 by_cases hk:encErr g.stop (g.stop+rs.length) (numbered g.stop rs)=0
 ·obtain⟨d',g',xs',ha,hg⟩:=k2 hk
  rw[ha] at he h9
  refine⟨by rw[he,hk],fun hne=>absurd hk hne,fun _=>⟨g',xs',⟨S',sv',ss',d',h9,hg.ok,hg.on.left,hg.down,by rw[hg.on.room,h5],?_,by have:=hg.files;omega,by have:=hg.segs;omega⟩,hg.all,hg.dir,hg.most,hg.start,hg.stop⟩,hch⟩
  have hb:(g.batch rs).Ok:=⟨hk,hnum⟩
  have:=hb.nums.len
  have:=hg.used
  omega
 ·rw[k1 hk] at he h9
  exact⟨he,fun _=>⟨S',sv',ss',d,h9,h2,h3,h4,h5,by omega,by omega,by omega⟩,fun h=>absurd h hk,hch⟩
theorem LgI.endAt {B:Nat→Prop}{w:World}{p l r m:Nat}{g:Lg}{xs:List SgB}(h:LgI B w p l r m g xs)(hm:m≤9999) :
  Calls Tryz.prog 15 #[.pointer (some ⟨l,0,none⟩)] w fun e w'=>e = .returned (.int .i64 g.stop)∧Chg Nil w w':=by
 obtain⟨S,sv,ss,d,h1,h2,h3,h4,h5,h6,h7,h8⟩:=h
 obtain⟨ys,x,hxs,hlast,_⟩:=h2.lastAt
 have hfw:=h2.few x (by rw[hxs];simp)
 exact lend_any h1.t (by rw[h1.len,h2.len];exact h2.pos) (by rw[h1.len,h2.len];omega) (by rw[hlast];omega)
theorem lstart_any {w:World}{l:Nat}{c0 c1 c2 c3 c5 c6:Value}{n:Int}(hb:Box w l [c0,c1,c2,c3,.int .i64 n,c5,c6] 99) :
  Calls Tryz.prog 16 #[.pointer (some ⟨l,0,none⟩)] w fun e w'=>e = .returned (.int .i64 n)∧Chg Nil w w':=by
 have c4:=hb.cell (j:=4) rfl
 clear hb;go_enter Tryz.func16,Tryz.ntmps16
 go_wp2_with fail;go_ret;exact⟨rfl,Chg.refl _ _⟩
theorem LgI.read {B:Nat→Prop}{w:World}{p l r m:Nat}{g:Lg}{xs:List SgB}(h:LgI B w p l r m g xs)(hdir:g.dir.length≤100)(hm:m≤9999) (frm most:Int)(h1:g.start≤frm)(h2:frm≤g.stop) :
  Calls Tryz.prog 34 #[.pointer (some ⟨l,0,none⟩),.int .i64 frm,.int .i64 most] w fun e w'=>∃ v out,e = .returned (.tuple #[v,.nilIface])∧OwnR 37 w' v out∧(∀ k,v.ownBlock=some k→w.heap.size≤k)∧(∃ rest,recsFrom frm (allBts xs)=out++rest∧(out=[]→rest=[]))∧Chg Nil w w':=by
 obtain⟨S,sv,ss,d,k1,k2,h3,h4,h5,h6,h7,h8⟩:=h
 refine (lread_go _ k1 k2 hdir (by rw[k1.len,k2.len];omega) frm most (Nat.le_refl _)).mono ?_
 rintro e w'' ⟨hv,hc⟩
 rcases hv with ⟨hbad,_⟩ | ⟨_,_,v,out,he,hown,hnew,hrd⟩
 ·omega
 ·exact⟨v,out,he,hown,hnew,hrd.from k2.of k2.up,hc⟩
theorem LgI.open {w w1:World}{p r:Nat}{S:Nat→Prop}(hr:r≤1048576)(hds:DsS (fun k=>k<w.heap.size) w1 p S (Dk.fresh r))(hc1:Chg Nil w w1)(hT:Tabs w) (c:UInt8)(hcd:cutDisk.contains c=true) (most:Int)(hmo:100≤most∧most≤1048576) (n:Nat)(hn:n≤1099511627776) :
  Calls Tryz.prog 10 #[.pointer (some ⟨p,0,none⟩),.string ⟨#[c]⟩,.int .i64 most,.int .i64 (n:Nat)] w1 fun e w'=>∃ l,e = .returned (.tuple #[.pointer (some ⟨l,0,none⟩),.nilIface])∧LgI (fun k=>k<w.heap.size) w' p l r 0 (newLg [c] most n n) [(⟨segName [c] n,n,[],0⟩,[])]∧Chg Nil w w':=by
 have h1:=lopen_new hds hr (hT.chg hc1) hT.lt ⟨#[c]⟩ (by show (1:Nat)≤100;omega) most hmo n hn (fun k hk=>(seg_ok k hk c hcd).1)
 refine h1.mono ?_
 rintro e w' ⟨l,S',sv,s,d',he,hN,_,hc⟩
 refine⟨l,he,⟨S',sv,_,d',hN.lg,hN.ok,hN.left,rfl,hN.room,by have:=hN.used;omega,by have:=hN.files;omega,by simp⟩,hc1.trans hc (fun k hk=>.inr (Nat.le_of_not_lt hk))⟩
theorem Handle.lt {w:World}(h:Handle w):0<w.heap.size:=World.block_lt_of_cell? _ _ h
end Go.Proofs.YtdjmifaidgbbaaaGreatDoor
namespace Go.Proofs
open Go.Shelf
def Tryz.delS_ren:Go.Shelf.Ren:=⟨fun | 45=>103 | n=>n,fun | 22=>97 | 23=>104 | 3=>3 | 4=>4 | 0=>0 | n=>n,fun | n=>n⟩
theorem Tryz.delS:Go.Proofs.SlLaysE.n45 Tryz.prog Tryz.delS_ren:={
 mixed:=by kernel_rfl
 f45:=⟨Tryz.f103.name,by decide,Tryz.func103.trans (congrArg some (by kernel_rfl))⟩
 t0:=Tryz.underlying0
 a0:=Tryz.isAgg0
 z0:=Tryz.sizeOf0
 v0:=Tryz.zeroValue0
 t3:=Tryz.underlying3
 a3:=Tryz.isAgg3
 z3:=Tryz.sizeOf3
 v3:=Tryz.zeroValue3
 t4:=Tryz.underlying4
 a4:=Tryz.isAgg4
 z4:=Tryz.sizeOf4
 v4:=Tryz.zeroValue4
 t22:=Tryz.underlying97
 a22:=Tryz.isAgg97
 z22:=Tryz.sizeOf97
 v22:=Tryz.zeroValue97
 a23:=Tryz.isAgg104
 z23:=Tryz.sizeOf104 }
end Go.Proofs
namespace Go.Proofs.YtdjmifaidgbbaaaGreatDoor
open Go.RowKit Go.Maps
def encT (o:Option Nat):Value:=.pointer (o.map fun s=>⟨s,0,none⟩)
theorem delete_any {w:World}{v:Value}{x:Nat}{l:List Nat}(h:OwnT w v (x::l))(hl:l.length≤1000000) :
  Calls Tryz.prog 103 #[v,.int .i64 0,.int .i64 1] w fun e w'=>∃ v',e = .returned v'∧OwnT w' v' l∧v'.ownBlock=v.ownBlock∧Chg (fun k=>v.ownBlock=some k) w w':=by
 rcases h.2 with ⟨_,hn⟩ | ⟨g,cap,cur,rfl,_,hg,hnc,hcm,hcs,htake⟩
 ·simp at hn
 have hgl:g<w.heap.size:=(Array.getElem?_eq_some_iff.1 hg).1
 obtain⟨d,hd⟩:∃ d:Array (Option Nat),d=((x::l).map some).toArray:=⟨_,rfl⟩
 have hds:d.size=l.length+1:=by rw[hd];simp
 have hmap:(x::l).map (fun s=>Value.pointer (some ⟨s,0,none⟩))=d.toList.map encT:=by
  rw[hd];simp[encT]
 rw[Nat.mul_one] at htake hcs
 have hH:Go.Sort.Holds encT w g 0 d:=by
  intro j hj;refine⟨?_,by simp[World.frozen?,hg]⟩
  have h1:(cur.toList.take (x::l).length)[j]? = (d.toList.map encT)[j]?:=by rw[htake,hmap]
  rw[List.getElem?_take_of_lt (by simpa using (by omega:j<l.length+1))] at h1
  simp only[World.cell?,hg,Nat.zero_add]
  simp only[Option.isSome_none,Bool.false_eq_true,if_false]
  rw[←Array.getElem?_toList,h1,List.getElem?_map,Array.getElem?_toList,Array.getElem?_eq_getElem hj,getElem!_pos d j hj]
  rfl
 obtain⟨i0,hi0,hz0⟩:∃ i0,Tryz.prog.info? 104=some i0∧i0.size=1:=by
  have h:(Tryz.prog.info? 104).map (fun i=>(i.zero,i.size,i.bytes))=some (some (.pointer none),1,8):=by kernel_rfl
  obtain⟨i,hi,hz,h1,h2⟩:=info_parts h
  exact⟨i,hi,h1⟩
 have hcl:=AnyE.slices_Delete Tryz.delS encT (fun _=>rfl) none Tryz.zeroValue104 i0 hi0 hz0 g 0 cap 0 1 d w hH (by rw[hds];simpa using hnc) (by unfold maxLen at hcm;omega) (by omega) (by omega)
 have e1:(Value.slice (some ⟨g,0,none⟩) d.size cap) = .slice (some ⟨g,0,none⟩) (x::l).length cap:=by rw[hds];rfl
 rw[e1] at hcl;refine hcl.mono ?_
 rintro e w' ⟨he,q,hw'⟩
 have harr:(d.toList.take 0++d.toList.drop 1++List.replicate (1-0) (none:Option Nat)).toArray=(l.map some++[none]).toArray:=by rw[hd];simp
 rw[harr] at hw';have hlen:((l.map some++[none]:List (Option Nat)).toArray).size=l.length+1:=by simp
 have hg':w'.heap[g]? = some (.cells (Go.Sort.putCells encT 0 (l.map some++[none]).toArray cur) 104 (0,0)):=by
  rw[hw'];simp[Go.Sort.putRow,Go.Sort.mapBlock,Go.Sort.ahead,Array.getElem?_modify,hg,Go.Sort.onCells]
 have hch:Chg (fun k=>(Value.slice (some ⟨g,0,none⟩) (x::l).length cap).ownBlock=some k) w w':=by
  rw[hw'];refine⟨rfl,rfl,rfl,by simp[Go.Sort.putRow,Go.Sort.mapBlock,Go.Sort.ahead],fun k hk hn=>?_⟩
  have hne:g≠k:=fun e=>hn (by rw[←e];rfl)
  simp[Go.Sort.putRow,Go.Sort.mapBlock,Go.Sort.ahead,Array.getElem?_modify,hne]
 refine⟨.slice (some ⟨g,0,none⟩) l.length cap,?_,⟨by rw[List.length_map,Nat.mul_one],.inr ⟨g,cap,_,rfl,Nat.zero_le _,hg',by have:(x::l).length≤cap:=hnc;rw[List.length_cons] at this;omega,hcm,by simp[Go.Sort.putCells,hcs],?_⟩⟩,rfl,hch⟩
 ·rw[he,hds];rfl
 ·apply List.ext_getElem?
  intro j;by_cases hj:j<l.length
  ·rw[Nat.mul_one,List.getElem?_take_of_lt hj,Array.getElem?_toList]
   have hjc:j<cur.size:=by have:(x::l).length≤cap:=hnc;rw[List.length_cons] at this;omega
   simp[Go.Sort.putCells,hjc,show j<l.length+1 by omega,List.getElem?_append_left,hj,encT]
  ·rw[Nat.mul_one,List.getElem?_take_eq_none (by omega),List.getElem?_eq_none (by simp;omega)]
def sumSz (l:List Sg):Nat:=(l.map Sg.size).sum
theorem sumSz_snoc (l:List Sg) {i:Nat}(h:i<l.length):sumSz (l.take (i+1))=sumSz (l.take i)+l[i].size:=by
 unfold sumSz;rw[List.take_succ_eq_append_getElem h,List.map_append,List.sum_append]
 simp
theorem sumSz_le {l:List Sg}{m:Nat}(h:∀ s∈l,s.size≤m):sumSz l≤l.length*m:=by
 induction l with
 | nil=>simp[sumSz]
 | cons a l ih=>
  have h1:=ih (fun s hs=>h s (List.mem_cons_of_mem _ hs))
  have h2:=h a (List.mem_cons_self ..)
  have e:sumSz (a::l)=a.size+sumSz l:=by unfold sumSz;simp
  rw[e,List.length_cons,Nat.add_mul];omega
theorem lsize_any {w:World} {p l:Nat} {sv:Value} {ss:List (Nat×Value)} {g:Lg} (h:LgT w p l sv ss g) (hfew:ss.length≤10000) (hsz:∀ s∈g.segs,s.size≤1000000000) :
  Calls Tryz.prog 45 #[.pointer (some ⟨l,0,none⟩)] w fun e w'=>e = .returned (.int .i64 (sumSz g.segs:Nat))∧Chg Nil w w':=by
 have c3:=h.c.cell (j:=3) rfl
 obtain⟨a,cap,hv,hcap,hcell⟩:=h.o.val
 rw[List.length_map] at hv;have HCELL:Hid (∀ i (hi:i<ss.length),∃ b,a=some ⟨b,0,none⟩∧w.cell? ⟨b,i,none⟩=some (.pointer (some ⟨ss[i].1,0,none⟩))):=fun i hi=>by
  obtain⟨b,hb,hz⟩:=hcell i (by rw[List.length_map];exact hi)
  rw[List.getElem_map] at hz;exact⟨b,hb,hz⟩
 have HSZ:Hid (∀ i (hi:i<ss.length) (x:Sg),g.segs[i]? = some x→∀ w',Chg Nil w w'→Calls Tryz.prog 59 #[.pointer (some ⟨ss[i].1,0,none⟩)] w' fun e w''=>e = .returned (.int .i64 (x.size:Nat))∧Chg Nil w' w''):=fun i hi x hx w' hw=>by
  have h1:=(h.m i hi).chg hw (fun _ _ h=>h)
  have e1:g.segs[i]'(h.len ▸ hi)=x:=by rw[List.getElem?_eq_getElem (h.len ▸ hi)] at hx;exact Option.some.inj hx
  rw[e1] at h1;refine (ssize_any h1).mono ?_
  rintro e w'' ⟨h2,h3⟩
  rw[h3];exact⟨h2,Chg.refl _ _⟩
 have HLEN:=Lib.hid h.len
 have HS:=Lib.hid hsz
 subst hv;obtain⟨n,hn⟩:∃ n,ss.length=n:=⟨_,rfl⟩
 have HNN:=Lib.hid hn
 rw[hn] at c3 hfew
 clear h hsz hcap hcell hn;go_enter Tryz.func45,Tryz.ntmps45
 go_wp2_with fail;go_loopw [11,3] (fun iv nv wr=>∃ (wq:World) (i:Nat),wq=wr∧i≤n∧iv = .int .i64 i∧nv = .int .i64 (sumSz (g.segs.take i):Nat)∧Chg Nil w wr) (fun iv _ _=>n-(RowKit.intOf iv).toNat)
 case atStart=>exact⟨_,0,rfl,by omega,rfl,rfl,Chg.refl _ _⟩
 case round=>
  obtain⟨wr,i,rfl,hi,rfl,rfl,hc⟩:=hrel
  have HC:=Lib.hid hc
  clear hc c3;by_cases hin:i<n
  ·have hii:(i:Int)<(n:Int):=by omega
   have hil:i<ss.length:=by rw[HNN.out];exact hin
   have hig:i<g.segs.length:=by rw[←HLEN.out];exact hil
   obtain⟨b,rfl,hz⟩:=HCELL.out i hil
   have z0:=HC.out.cell hz (fun h=>h)
   obtain⟨x,hxx⟩:∃ x,g.segs[i]? = some x:=⟨g.segs[i],List.getElem?_eq_getElem hig⟩
   have hxe:g.segs[i]=x:=by rw[List.getElem?_eq_getElem hig] at hxx;exact Option.some.inj hxx
   have HSZ1:=Lib.hid (HSZ.out i hil x hxx wr HC.out)
   have HSN:Hid (sumSz (g.segs.take (i+1))=sumSz (g.segs.take i)+x.size):=by rw[←hxe];exact sumSz_snoc g.segs hig
   have hxs:x.size≤1000000000:=HS.out x (List.mem_of_getElem? hxx)
   have hsum:sumSz (g.segs.take i)≤10000000000000:=by
    have h1:=sumSz_le (l:=g.segs.take i) (m:=1000000000) (fun s hs=>HS.out s (List.mem_of_mem_take hs))
    rw[List.length_take] at h1;have h2:min i g.segs.length*1000000000≤10000*1000000000:=Nat.mul_le_mul_right _ (by omega)
    omega
   obtain⟨q,hq⟩:∃ q,ss[i].1=q:=⟨_,rfl⟩
   rw[hq] at z0 HSZ1
   have HIN:=Lib.hid hin
   obtain⟨T,hT⟩:∃ T,sumSz (g.segs.take i)=T:=⟨_,rfl⟩
   rw[hT] at HSN hsum
   rw[hT];obtain⟨xz,hxz⟩:∃ xz,x.size=xz:=⟨_,rfl⟩
   rw[hxz] at HSN hxs HSZ1
   clear hq hxx hxe hz hil hig hT hxz hin;go_wp2_with fail;refine HSZ1.out.mono ?_
   rintro e w2 ⟨rfl,hc2⟩
   have HC2:Hid (Chg Nil w w2):=HC.out.trans hc2 (fun _ h=>h.elim)
   clear hc2 HSZ1 z0;go_wp2_with fail;go_roundw
   case rel=>exact⟨_,i+1,rfl,HIN.out,by go_num,by rw[HSN.out];go_num,HC2.out⟩
   case measure=>exact meas_two HIN.out
  ·have hii:¬(i:Int)<(n:Int):=by omega
   have HT:Hid (g.segs.take i=g.segs):=List.take_of_length_le (by rw[←HLEN.out,HNN.out];omega)
   go_wp2_with fail;go_ret;rw[HT.out];exact⟨rfl,HC.out⟩
def OwnZ (w:World) (v:Value) (l:List Int):Prop:=w.ownsRow 0 3 1 v l.length (l.map fun n=>Value.int .i64 n)
theorem OwnZ.nil (w:World):OwnZ w (.slice none 0 0) []:=World.ownsRow_nil w 0 _ 1
theorem OwnZ.chg {S:Nat→Prop}{w w':World}{v:Value}{l:List Int}(h:OwnZ w v l)(hc:Chg S w w')(hn:∀ k,v.ownBlock=some k→¬S k):OwnZ w' v l:=ownsRow_chg h hc hn
theorem OwnZ.form {w:World}{v:Value}{l:List Int}(h:OwnZ w v l):v = .slice (vA v) l.length (vC v):=by
 rcases h.2 with ⟨rfl,hn⟩ | ⟨g,cap,cur,rfl,_,_,hle,_⟩
 ·rw[hn];rfl
 ·rfl
theorem OwnZ.val {w:World}{v:Value}{l:List Int}(h:OwnZ w v l):∃ a cap,v = .slice a l.length cap∧l.length≤cap∧∀ i (h:i<l.length),∃ g,a=some ⟨g,0,none⟩∧w.cell? ⟨g,i,none⟩=some (.int .i64 l[i]):=by
 rcases h.2 with ⟨rfl,hn⟩ | ⟨g,cap,cur,rfl,_,_,hle,_⟩
 ·exact⟨none,0,by rw[hn],by omega,fun i hi=>absurd hi (by omega)⟩
 ·have e1:∀ j,(⟨g,0,none⟩:Addr).add j=⟨g,j,none⟩:=fun j=>by unfold Addr.add;split<;>simp_all
  refine⟨some ⟨g,0,none⟩,cap,rfl,hle,fun i hi=>⟨g,rfl,?_⟩⟩
  have:=World.ownsRow.cells h (g:=g) rfl i (.int .i64 l[i]) (by rw[List.getElem?_map,List.getElem?_eq_getElem hi];rfl)
  rwa [e1] at this
theorem intT:SliceT Tryz.prog 43 3 1 8:=
 ⟨Tryz.underlying43,by
  have h:(Tryz.prog.info? 3).map (fun i=>(i.zero,i.size,i.bytes))=some (some (.int .i64 0),1,8):=by kernel_rfl
  obtain⟨i,hi,hz,h1,h2⟩:=info_parts h
  exact⟨i,_,hi,hz,rfl,h1,h2⟩⟩
theorem lsegs_any {w:World} {p l:Nat} {sv:Value} {ss:List (Nat×Value)} {g:Lg} (h:LgT w p l sv ss g) (hfew:ss.length≤10000) :
  Calls Tryz.prog 17 #[.pointer (some ⟨l,0,none⟩)] w fun e w'=>∃ v,e = .returned v∧OwnZ w' v (g.segs.map Sg.base)∧(∀ k,v.ownBlock=some k→w.heap.size≤k)∧Chg Nil w w':=by
 have c3:=h.c.cell (j:=3) rfl
 obtain⟨a,cap,hv,hcap,hcell⟩:=h.o.val
 rw[List.length_map] at hv;have HCELL:Hid (∀ i (hi:i<ss.length),∃ b,a=some ⟨b,0,none⟩∧w.cell? ⟨b,i,none⟩=some (.pointer (some ⟨ss[i].1,0,none⟩))):=fun i hi=>by
  obtain⟨b,hb,hz⟩:=hcell i (by rw[List.length_map];exact hi)
  rw[List.getElem_map] at hz;exact⟨b,hb,hz⟩
 have HBA:Hid (∀ i (hi:i<ss.length) (x:Sg),g.segs[i]? = some x→∀ w',Chg Nil w w'→Calls Tryz.prog 57 #[.pointer (some ⟨ss[i].1,0,none⟩)] w' fun e w''=>e = .returned (.int .i64 x.base)∧Chg Nil w' w''):=fun i hi x hx w' hw=>by
  have h1:=(h.m i hi).chg hw (fun _ _ h=>h)
  have e1:g.segs[i]'(h.len ▸ hi)=x:=by rw[List.getElem?_eq_getElem (h.len ▸ hi)] at hx;exact Option.some.inj hx
  rw[e1] at h1;refine (sbase_any h1).mono ?_
  rintro e w'' ⟨h2,h3⟩
  rw[h3];exact⟨h2,Chg.refl _ _⟩
 have HLEN:=Lib.hid h.len
 subst hv;obtain⟨n,hn⟩:∃ n,ss.length=n:=⟨_,rfl⟩
 have HNN:=Lib.hid hn
 rw[hn] at c3 hfew
 clear h hcap hcell hn;go_enter Tryz.func17,Tryz.ntmps17
 go_wp2_with fail;go_loopw [11,3] (fun iv ov wr=>∃ (wq:World) (i:Nat),wq=wr∧i≤n∧iv = .int .i64 i∧OwnZ wr ov ((g.segs.take i).map Sg.base)∧(∀ k,ov.ownBlock=some k→w.heap.size≤k)∧Chg Nil w wr) (fun iv _ _=>n-(RowKit.intOf iv).toNat)
 case atStart=>exact⟨_,0,rfl,by omega,rfl,OwnZ.nil _,(fun k hk=>by cases hk),Chg.refl _ _⟩
 case round=>
  obtain⟨wr,i,rfl,hi,rfl,hov,hob,hc⟩:=hrel
  have HC:=Lib.hid hc
  have HOB:=Lib.hid hob
  have HOV:=Lib.hid hov
  obtain⟨vx,vn,vc,rfl⟩:=ownsRow_form hov
  clear hc c3 hob hov;by_cases hin:i<n
  ·have hii:(i:Int)<(n:Int):=by omega
   have hil:i<ss.length:=by rw[HNN.out];exact hin
   have hig:i<g.segs.length:=by rw[←HLEN.out];exact hil
   obtain⟨b,rfl,hz⟩:=HCELL.out i hil
   have z0:=HC.out.cell hz (fun h=>h)
   obtain⟨x,hxx⟩:∃ x,g.segs[i]? = some x:=⟨g.segs[i],List.getElem?_eq_getElem hig⟩
   have hxe:g.segs[i]=x:=by rw[List.getElem?_eq_getElem hig] at hxx;exact Option.some.inj hxx
   have HBA1:=Lib.hid (HBA.out i hil x hxx wr HC.out)
   have HSN:Hid ((g.segs.take (i+1)).map Sg.base=(g.segs.take i).map Sg.base++[x.base]):=by rw[←hxe,List.take_succ_eq_append_getElem hig,List.map_append];rfl
   have hpl:((g.segs.take i).map Sg.base).length=i:=by rw[List.length_map,List.length_take];omega
   obtain⟨q,hq⟩:∃ q,ss[i].1=q:=⟨_,rfl⟩
   rw[hq] at z0 HBA1
   have HIN:=Lib.hid hin
   obtain⟨P,hP⟩:∃ P,(g.segs.take i).map Sg.base=P:=⟨_,rfl⟩
   rw[hP] at HSN hpl HOV
   obtain⟨xb,hxb⟩:∃ xb,x.base=xb:=⟨_,rfl⟩
   rw[hxb] at HSN HBA1
   have HH63:Hid (P.length+1≤maxLen):=by unfold Hid;rw[hpl];unfold maxLen;omega
   have HBY:Hid ((P.length+1)*8≤140737488355328):=by unfold Hid;rw[hpl];omega
   clear hq hxx hxe hz hil hig hP hxb hin hpl;go_wp2_with fail;refine HBA1.out.mono ?_
   rintro e w2 ⟨rfl,hc2⟩
   have HC2:Hid (Chg Nil w w2):=HC.out.trans hc2 (fun _ h=>h.elim)
   have HOV2:=Lib.hid (HOV.out.chg hc2 (fun _ _ h=>h))
   have HB1:=Lib.hid (Box.new w2 [.int .i64 xb] 3)
   clear hc2 HBA1 z0;go_wp2_with (at_builtin;go_must (refine wpList_append_grew rfl (.tmp 15) (.tmp 18) 43 43 rfl intT _ Tryz.underlying43 (by intro _;simp) _ _ _ rfl (HOV2.out.alloc _) _ 1 [.int .i64 xb] rfl (Source.box HB1.out rfl (by intro u hu;rw[List.mem_singleton.1 hu];rfl)) HH63.out HBY.out ?_);intro v2 w8 hown2 hg2 _;obtain⟨x2,n2,c2,rfl⟩:=ownsRow_form hown2;have HOWN2:=Lib.hid hown2;have HG2:=Lib.hid hg2;clear hown2 hg2)
   go_roundw
   case rel=>
    have hal:=HC2.out.trans ((Chg.refl Nil w2).alloc (.cells #[.int .i64 xb] 3)) (fun _ h=>h.elim)
    refine⟨_,i+1,rfl,HIN.out,by go_num,?_,fun k hk=>?_,hal.trans HG2.out.chg (fun k hk=>.inr (HOB.out k hk))⟩
    ·have h:=HOWN2.out
     unfold OwnZ;rw[HSN.out,List.length_append,List.map_append];exact h
    ·rcases HG2.out.own k hk with h | h
     ·exact HOB.out k h
     ·exact Nat.le_trans hal.size h
   case measure=>exact meas_two HIN.out
  ·have hii:¬(i:Int)<(n:Int):=by omega
   have HT:Hid (g.segs.take i=g.segs):=List.take_of_length_le (by rw[←HLEN.out,HNN.out];omega)
   go_wp2_with fail;go_ret;have h1:=HOV.out
   rw[HT.out] at h1;exact⟨_,rfl,h1,HOB.out,HC.out⟩
theorem LgS.tail {B:Nat→Prop}{w w1 w2:World}{p l:Nat}{S:Nat→Prop}{sv sv1:Value}{x:Nat×Value}{ss:List (Nat×Value)}{d:Dk}{g:Lg}{s0:Sg}{segs:List Sg}(h:LgS B w p l S sv (x::ss) d g)(hg:g.segs=s0::segs)
  (ho:OwnT w1 sv1 (ss.map (·.1)))(hob:sv1.ownBlock=sv.ownBlock)(hc1:Chg (fun k=>sv.ownBlock=some k) w w1)(hc2:Chg (fun k=>k=l) w1 w2)(hb:Box w2 l (({ g with segs:=segs }:Lg).cells p sv1) 99) :
  LgS B w2 p l S sv1 ss d { g with segs:=segs }:=by
 have hc:Chg (fun k=>LHas l sv k) w w2:=(hc1.weak fun k hk=>.inl (.inr hk)).trans hc2 (fun k hk=>.inl (.inl hk))
 have hz:=hc.size
 have hL:∀ k,LHas l sv1 k→LHas l sv k:=by
  rintro k (hk | hk)
  ·exact .inl hk
  ·exact .inr (hob ▸ hk)
 have hT:∀ k,THas ss k→THas (x::ss) k:=fun k ⟨y,hy,hk⟩=>⟨y,List.mem_cons_of_mem _ hy,hk⟩
 have hlen:ss.length=segs.length:=by have:=h.len;rw[hg] at this;simpa using this
 have hslv:sv1.ownBlock≠some l:=fun e=>by
  have h1:w.heap[l]? = _:=h.c
  rw[hob] at e;rcases h.o.2 with ⟨hv,_⟩ | ⟨b,cap,cur,hv,_,hgb,_⟩
  ·rw[hv] at e;cases e
  ·rw[hv] at e;obtain rfl:b=l:=Option.some.inj e
   rw[h1] at hgb;exact absurd (Obj.cells.inj (Option.some.inj hgb)).2.1 (by decide)
 refine⟨fun k hk=>Nat.lt_of_lt_of_le (h.lo k hk) hz,h.a.chg hc (fun k hk hl=>(h.sl k hk).2.1 hl),hb,ownsRow_chg ho hc2 (fun k hk e=>hslv (e ▸ hk)),hlen,fun i hi=>?_,
  fun k hk=>⟨(h.sl k hk).1,fun hl=>(h.sl k hk).2.1 (hL k hl),fun ht=>(h.sl k hk).2.2.1 (hT k ht),Nat.lt_of_lt_of_le (h.sl k hk).2.2.2 hz⟩,fun k hk=>⟨(h.lb k (hL k hk)).1,fun ht=>(h.lb k (hL k hk)).2 (hT k ht)⟩,fun k hk=>h.tb k (hT k hk),fun i j hi hj hij k hk=>?_⟩
 ·have h1:=(h.m (i+1) (by simpa using hi)).chg hc (fun k hk hl=>(h.lb k hl).2 (THas.of (i:=i+1) (by simpa using hi) hk))
  simp only[hg,List.getElem_cons_succ] at h1
  exact h1
 ·exact h.apart (i+1) (j+1) (by simpa using hi) (by simpa using hj) (by omega) k hk
def dropGo (start:Int):List Sg→Dk→Nat×Dk×List Sg
 | s0::s1::r,d=>if s1.base≤start then (if (d.remove s0.name).1=0 then dropGo start (s1::r) (d.remove s0.name).2 else ((d.remove s0.name).1,(d.remove s0.name).2,s0::s1::r)) else (0,d,s0::s1::r)
 | l,d=>(0,d,l)
def dropLg (d:Dk) (g:Lg):Nat×Dk×Lg:=((dropGo g.start g.segs d).1,(dropGo g.start g.segs d).2.1,({ g with segs:=(dropGo g.start g.segs d).2.2 }:Lg).fail (dropGo g.start g.segs d).1)
theorem fail_zero (g:Lg):g.fail 0=g:=if_neg (by decide)
def Lg.goes (g:Lg):Bool:=match g.segs with | _::s1::_=>decide (s1.base≤g.start) | _=>false
theorem drop_stay {d:Dk}{g:Lg}(h:g.goes=false):dropLg d g=(0,d,g):=by
 unfold dropLg;unfold Lg.goes at h;match hs:g.segs with
 | []=>rw[show dropGo g.start [] d=(0,d,[]) from rfl];simp only[fail_zero];rw[←hs]
 | [s]=>rw[show dropGo g.start [s] d=(0,d,[s]) from rfl];simp only[fail_zero];rw[←hs]
 | s0::s1::r=>
  rw[hs] at h;have hn:¬s1.base≤g.start:=by simpa using h
  have e:dropGo g.start (s0::s1::r) d=(0,d,s0::s1::r):=by rw[dropGo];exact if_neg hn
  rw[e];simp only[fail_zero]
  rw[←hs]
theorem drop_go {d:Dk}{g:Lg}{s0 s1:Sg}{r:List Sg}(hs:g.segs=s0::s1::r)(h:s1.base≤g.start):dropLg d g=if (d.remove s0.name).1=0 then dropLg (d.remove s0.name).2 { g with segs:=s1::r } else ((d.remove s0.name).1,(d.remove s0.name).2,g.fail (d.remove s0.name).1):=by
 unfold dropLg;have e:dropGo g.start (s0::s1::r) d=if (d.remove s0.name).1=0 then dropGo g.start (s1::r) (d.remove s0.name).2 else ((d.remove s0.name).1,(d.remove s0.name).2,s0::s1::r):=by rw[dropGo];exact if_pos h
 rw[hs,e];split
 ·rfl
 ·simp only
  rw[←hs]
def lenAt (w:World) (l:Nat):Nat:=match w.cell? ⟨l,3,none⟩ with | some (.slice _ n _)=>n | _=>0
theorem LgS.lenAt {B:Nat→Prop}{w:World}{p l:Nat}{S:Nat→Prop}{sv:Value}{ss:List (Nat×Value)}{d:Dk}{g:Lg}(h:LgS B w p l S sv ss d g):lenAt w l=ss.length:=by
 have c3:=h.c.cell (j:=3) rfl
 have hf:=h.o.form
 rw[List.length_map] at hf;rw[hf] at c3;unfold Go.Proofs.YtdjmifaidgbbaaaGreatDoor.lenAt;rw[c3]
theorem ldrop_any {B:Nat→Prop} {w:World} {p l:Nat} {S:Nat→Prop} {sv:Value} {ss:List (Nat×Value)} {d:Dk} {g:Lg} (h:LgS B w p l S sv ss d g) (hne:0<ss.length) (hfew:ss.length≤10000) (hnm:∀ s∈g.segs,s.name.length≤1000) (hG:Handle w) (hB:B 0) :
  Calls Tryz.prog 64 #[.pointer (some ⟨l,0,none⟩)] w fun e w'=>e = .returned (errD (dropLg d g).1)∧(∃ S' sv' ss',LgS B w' p l S' sv' ss' (dropLg d g).2.1 (dropLg d g).2.2∧0<ss'.length∧ss'.length≤ss.length)∧Chg (Off B) w w':=by
 have HH:=Lib.hid h
 have HNM:=Lib.hid hnm
 have HG:=Lib.hid hG
 have HB:=Lib.hid hB
 obtain⟨R,hR⟩:∃ R,dropLg d g=R:=⟨_,rfl⟩
 have HR:=Lib.hid hR
 rw[hR];clear h hnm hG hB hR;go_enter Tryz.func64,Tryz.ntmps64
 go_wp2_with fail;go_loopw [3] (fun ev wr=>∃ (wq:World) (S':Nat→Prop) (sv':Value) (ss':List (Nat×Value)) (d':Dk) (g':Lg),wq=wr∧LgS B wr p l S' sv' ss' d' g'∧0<ss'.length∧ss'.length≤ss.length∧Hid (dropLg d' g'=R)∧Hid (∀ s∈g'.segs,s.name.length≤1000)∧Chg (Off B) w wr) (fun _ wr=>lenAt wr l)
 case atStart=>exact⟨_,S,sv,ss,d,g,rfl,HH.out,hne,Nat.le_refl _,HR.out,HNM.out,Chg.refl _ _⟩
 case round=>
  obtain⟨wr,S',sv',ss',d',g',rfl,hs,hne',hle,hdr,hnm,hc⟩:=hrel
  have HS:=Lib.hid hs
  have HDR:Hid _:=hdr
  have HNM':Hid _:=hnm
  have HC:=Lib.hid hc
  have HNE:=Lib.hid hne'
  have HLE:=Lib.hid hle
  have HLN:=Lib.hid hs.lenAt
  have c3:=hs.c.cell (j:=3) rfl
  have c4:=hs.c.cell (j:=4) rfl
  obtain⟨a,cap,hv,hcap,hcell⟩:=hs.o.val
  rw[List.length_map] at hv;have HCELL:Hid (∀ i (hi:i<ss'.length),∃ b,a=some ⟨b,0,none⟩∧wr.cell? ⟨b,i,none⟩=some (.pointer (some ⟨ss'[i].1,0,none⟩))):=fun i hi=>by
   obtain⟨b,hb,hz⟩:=hcell i (by rw[List.length_map];exact hi)
   rw[List.getElem_map] at hz;exact⟨b,hb,hz⟩
  have hn1:ss'.length≤10000:=by omega
  subst hv;clear hs hdr hnm hc hne' hle hcap hcell;go_upto_region 1 with fail;go_cut [23] (fun bv wy=>bv = .bool g'.goes∧Chg Nil wr wy)
  case first=>
   by_cases h1:1<ss'.length
   ·have h1i:(1:Int)<(ss'.length:Int):=by omega
    obtain⟨b,rfl,hz⟩:=HCELL.out 1 h1
    have HBA:Hid (∀ w',Chg Nil wr w'→Calls Tryz.prog 57 #[.pointer (some ⟨ss'[1].1,0,none⟩)] w' fun e w''=>e = .returned (.int .i64 (g'.segs[1]'(by rw[←HS.out.len];exact h1)).base)∧Chg Nil w' w''):=fun w' hw=>by
     refine (sbase_any ((HS.out.nil hw).m 1 h1)).mono ?_
     rintro e w'' ⟨h2,h3⟩
     rw[h3];exact⟨h2,Chg.refl _ _⟩
    obtain⟨s0,s1,r,hsg⟩:∃ s0 s1 r,g'.segs=s0::s1::r:=by
     have h2:=HS.out.len
     rcases hq:g'.segs with _ | ⟨s0,_ | ⟨s1,r⟩⟩
     ·rw[hq] at h2;simp only[List.length_nil] at h2;omega
     ·rw[hq] at h2;simp only[List.length_singleton] at h2;omega
     ·exact⟨s0,s1,r,rfl⟩
    have hgo:g'.goes=decide (s1.base≤g'.start):=by unfold Lg.goes;rw[hsg]
    have e1:(g'.segs[1]'(by rw[←HS.out.len];exact h1)).base=s1.base:=by simp only[hsg];rfl
    rw[e1] at HBA;have HGO:=Lib.hid hgo
    obtain⟨q,hq⟩:∃ q,ss'[1].1=q:=⟨_,rfl⟩
    rw[hq] at hz HBA
    obtain⟨b1,hb1⟩:∃ b1,s1.base=b1:=⟨_,rfl⟩
    rw[hb1] at HBA HGO
    obtain⟨st,hst⟩:∃ st,g'.start=st:=⟨_,rfl⟩
    rw[hst] at c4 HGO
    obtain⟨n,hn⟩:∃ n,ss'.length=n:=⟨_,rfl⟩
    rw[hn] at c3 h1 h1i hn1
    clear hgo e1 hq hb1 hst hn hsg;refine wp_region_mono _ (Chg Nil) (by kernel_rfl) (fun _ _ _ h k=>h.trans k (fun _ h=>h.elim)) [[],[0],[1],[2],[3],[4],[5],[6],[6,7],[6,8],[6,9],[6,10],[6,11],[6,12],[6],[6,14],[6,15],[6,16],[6,13,17],[6,18]] rfl (by kernel_rfl) (Chg.refl _ _).drew ?_
    iterate 3 ((with_reducible apply Walk.eq);case h=>(intro w2 hw2 N hN;simp only[depM];go_simp;(try go_bits);with_reducible exact hN _ (Chg.refl _ _)))
    ((with_reducible apply Walk.eq);case h=>(intro w2 hw2 N hN;have hq:=hw2.cell c3 (fun h=>h);simp only[depM];go_simp;with_reducible exact hN _ (Chg.refl _ _)))
    iterate 6 ((with_reducible apply Walk.eq);case h=>(intro w2 hw2 N hN;simp only[depM];go_simp;(try go_bits);with_reducible exact hN _ (Chg.refl _ _)))
    ((with_reducible apply Walk.eq);case h=>(intro w2 hw2 N hN;have hq:=hw2.cell c3 (fun h=>h);simp only[depM];go_simp;with_reducible exact hN _ (Chg.refl _ _)))
    ((with_reducible apply Walk.eq);case h=>(intro w2 hw2 N hN;simp only[depM];go_simp;(try go_bits);with_reducible exact hN _ (Chg.refl _ _)))
    ((with_reducible apply Walk.eq);case h=>(intro w2 hw2 N hN;have hq:=hw2.cell hz (fun h=>h);simp only[depM];go_simp;with_reducible exact hN _ (Chg.refl _ _)))
    (with_reducible apply Walk.eq);case h=>
     intro w2 hw2 N hN;simp only[depM]
     go_simp;refine (HBA.out w2 hw2).mono ?_
     rintro e w5 ⟨rfl,hc5⟩
     exact⟨_,rfl,hN _ hc5⟩
    iterate 3 ((with_reducible apply Walk.eq);case h=>(intro w2 hw2 N hN;simp only[depM];go_simp;(try go_bits);with_reducible exact hN _ (Chg.refl _ _)))
    ((with_reducible apply Walk.eq);case h=>(intro w2 hw2 N hN;have hq:=hw2.cell c4 (fun h=>h);simp only[depM];go_simp;with_reducible exact hN _ (Chg.refl _ _)))
    iterate 2 ((with_reducible apply Walk.eq);case h=>(intro w2 hw2 N hN;simp only[depM];go_simp;(try go_bits);with_reducible exact hN _ (Chg.refl _ _)))
    intro w7 hw7;simp only[List.nil_append,List.cons_append,Fin]
    have HW7:=Lib.hid hw7
    clear hw7;go_simp;go_wp2_with fail;go_meet
    case rel=>exact⟨by rw[HGO.out],HW7.out⟩
   ·have h1i:¬(1:Int)<(ss'.length:Int):=by omega
    have hgo:g'.goes=false:=by
     have h2:=HS.out.len
     unfold Lg.goes;rcases hq:g'.segs with _ | ⟨s0,_ | ⟨s1,r⟩⟩
     ·rfl
     ·rfl
     ·rw[hq] at h2;simp only[List.length_cons] at h2;omega
    have HGO:=Lib.hid hgo
    obtain⟨n,hn⟩:∃ n,ss'.length=n:=⟨_,rfl⟩
    rw[hn] at c3 h1 h1i hn1
    clear hgo hn;refine wp_region_mono _ (Chg Nil) (by kernel_rfl) (fun _ _ _ h k=>h.trans k (fun _ h=>h.elim)) [[],[0],[1],[2],[3],[4],[5],[6],[6,7],[6,8],[6,9],[6,10],[6,11],[6,12],[6],[6,14],[6,15],[6,16],[6,13,17],[6,18]] rfl (by kernel_rfl) (Chg.refl _ _).drew ?_
    iterate 3 ((with_reducible apply Walk.eq);case h=>(intro w2 hw2 N hN;simp only[depM];go_simp;(try go_bits);with_reducible exact hN _ (Chg.refl _ _)))
    ((with_reducible apply Walk.eq);case h=>(intro w2 hw2 N hN;have hq:=hw2.cell c3 (fun h=>h);simp only[depM];go_simp;with_reducible exact hN _ (Chg.refl _ _)))
    iterate 16 ((with_reducible apply Walk.eq);case h=>(intro w2 hw2 N hN;simp only[depM];go_simp;(try go_bits);with_reducible exact hN _ (Chg.refl _ _)))
    intro w7 hw7;simp only[List.nil_append,List.cons_append,Fin]
    have HW7:=Lib.hid hw7
    clear hw7;go_simp;go_wp2_with fail;go_meet
    case rel=>exact⟨by rw[HGO.out],HW7.out⟩
  obtain⟨rfl,hcw⟩:=hcut
  have HS2:=Lib.hid (HS.out.nil hcw)
  have HCW:Hid (Chg (Off B) w wc):=HC.out.trans hcw (fun _ h=>h.elim)
  have HCN:=Lib.hid hcw
  clear hcw c3 c4;cases hgo:g'.goes with
  | false=>
   have HEND:Hid (R=(0,d',g')):=by rw[←HDR.out];exact drop_stay hgo
   clear hgo;go_wp2_with fail;go_ret;rw[HEND.out];exact⟨rfl,⟨S',_,ss',HS2.out,HNE.out,HLE.out⟩,HCW.out⟩
  | true=>
   obtain⟨s0,s1,r,hsg⟩:∃ s0 s1 r,g'.segs=s0::s1::r:=by
    unfold Lg.goes at hgo;rcases hq:g'.segs with _ | ⟨s0,_ | ⟨s1,r⟩⟩
    ·rw[hq] at hgo;cases hgo
    ·rw[hq] at hgo;cases hgo
    ·exact⟨s0,s1,r,rfl⟩
   have hbs:s1.base≤g'.start:=by
    unfold Lg.goes at hgo;rw[hsg] at hgo;simpa using hgo
   have hstep:=HDR.out
   rw[drop_go hsg hbs] at hstep
   obtain⟨⟨rk,d2⟩,hM⟩:∃ M,d'.remove s0.name=M:=⟨_,rfl⟩
   rw[hM] at hstep;have HSTEP:Hid ((if rk=0 then dropLg d2 { g' with segs:=s1::r } else (rk,d2,g'.fail rk))=R):=hstep
   obtain⟨x0,ss2,hss⟩:∃ x0 ss2,ss'=x0::ss2:=List.exists_cons_of_length_pos HNE.out
   subst hss;have HNE2:Hid (0<ss2.length):=by
    have h2:=HS2.out.len
    rw[hsg] at h2;simp only[List.length_cons] at h2
    unfold Hid;omega
   have HRM:Hid (Calls Tryz.prog 102 #[.pointer (some ⟨x0.1,0,none⟩)] wc fun e w''=>e = .returned (errD rk)∧(∃ S'',LgS B w'' p l S'' (.slice a (x0::ss2).length cap) (x0::ss2) d2 g')∧Chg (Off B) wc w''):=by
    have h1:=HS2.out.seg 0 (by simp)
    have e1:g'.segs[0]'(by rw[hsg];simp)=s0:=by simp only[hsg];rfl
    rw[e1] at h1;have h2:=sremove_any h1 (HNM'.out s0 (by rw[hsg];simp))
    rw[hM] at h2;refine h2.mono ?_
    rintro e w'' ⟨h3,⟨S'',h4⟩,h5⟩
    have h6:=HS2.out.back (i:=0) (by simp) h4 h5
    refine⟨h3,⟨S'',?_⟩,offI h5⟩
    have e3:({ g' with segs:=g'.segs.set 0 s0 }:Lg)=g':=by
     have:g'.segs.set 0 s0=g'.segs:=by rw[hsg];rfl
     rw[this]
    rw[e3] at h6;exact h6
   have c3:=HS2.out.c.cell (j:=3) rfl
   obtain⟨b,hb0,hz0⟩:=HCELL.out 0 HNE.out
   subst hb0;have z0:wc.cell? ⟨b,0,none⟩=some (.pointer (some ⟨x0.1,0,none⟩)):=HCN.out.cell hz0 (fun h=>h)
   have HSG:=Lib.hid hsg
   have HBW:=Lib.hid HB.out
   have hlp:(0:Int)<((x0::ss2).length:Int):=by simp only[List.length_cons];omega
   clear hgo hbs hstep hM hz0 hsg;obtain⟨n,hn⟩:∃ n,(x0::ss2).length=n:=⟨_,rfl⟩
   have HN:=Lib.hid hn
   rw[hn] at c3 HRM hn1 hlp
   clear hn;go_wp2_with fail;refine HRM.out.mono ?_
   rintro e w5 ⟨rfl,⟨S5,hs5⟩,hc5⟩
   have HS5:=Lib.hid hs5
   have HC5:Hid (Chg (Off B) w w5):=HCW.out.trans hc5 (fun k hk=>.inl hk)
   clear hs5 hc5 c3 z0 HRM;by_cases hrk:rk=0
   ·subst hrk;have hz:errD 0 = .nilIface:=rfl
    rw[hz];have HST2:Hid (dropLg d2 { g' with segs:=s1::r } = R):=by rw[←HSTEP.out];exact (if_pos rfl).symm
    have HDE:=Lib.hid (delete_any (l:=ss2.map (·.1)) (x:=x0.1) HS5.out.o (by rw[List.length_map];have:=HN.out;rw[List.length_cons] at this;omega))
    have c3:=HS5.out.c.cell (j:=3) rfl
    clear hz;go_wp2_with fail;refine HDE.out.mono ?_
    rintro e w6 ⟨v',rfl,hov,hob,hc6⟩
    obtain⟨va,vn,vc,rfl⟩:=ownsRow_form hov
    have HOV:=Lib.hid hov
    have HOB:=Lib.hid hob
    have HC6:=Lib.hid hc6
    have hbx6:=HS5.out.c.chg hc6 (fun h=>box_row_ne' HS5.out.c HS5.out.o (by decide) h)
    have HBX6:=Lib.hid hbx6
    have f3:=hbx6.free 3
    have c3':=hbx6.cell (j:=3) rfl
    clear hov hob hc6 hbx6 c3 HDE;go_wp2_with fail;have hset:Chg (fun k=>k=l) w6 (w6.setCell ⟨l,3,none⟩ (.slice va vn vc)):=(Chg.refl (fun k=>k=l) _).setCell (.inl rfl) _
    have hfin:=HS5.out.tail HSG.out HOV.out HOB.out HC6.out hset (HBX6.out.set 3 _)
    have hcf:Chg (Off B) w (w6.setCell ⟨l,3,none⟩ (.slice va vn vc)):=(HC5.out.trans (HC6.out.weak (S':=Off B) (fun k hk=>.inl (HS5.out.lb k (.inr hk)).1)) (fun k hk=>.inl hk)).trans (hset.weak (S':=Off B) (fun k hk=>.inl fun hb=>(HS5.out.lb l (.inl rfl)).1 (hk ▸ hb))) (fun k hk=>.inl hk)
    go_roundw
    case rel=>exact⟨_,S5,_,ss2,d2,_,rfl,hfin,HNE2.out,by have h1:=HLE.out;rw[List.length_cons] at h1;omega,HST2.out,fun s hs=>HNM'.out s (by rw[HSG.out];exact List.mem_cons_of_mem _ hs),hcf⟩
    case measure=>
     rw[hfin.lenAt,HLN.out];simp
   ·have hz:=errD_ne hrk
    rw[hz];have HST2:Hid (R=(rk,d2,g'.fail rk)):=by rw[←HSTEP.out];exact if_neg hrk
    have HFA:=Lib.hid (lfail_any HS5.out (HG.out.chg HC5.out (fun hn=>hn HB.out)) rk hrk)
    have HRK:=Lib.hid hrk
    clear hz hrk;go_wp2_with fail;refine HFA.out.mono ?_
    rintro e w6 ⟨rfl,hs6,hc6⟩
    have HS6:=Lib.hid hs6
    have HC6:=Lib.hid (HC5.out.trans (HS5.out.offL hc6) (fun k hk=>.inl hk))
    clear hs6 hc6 HFA;go_wp2_with fail;go_ret;rw[HST2.out];exact⟨by show _=Ending.returned (errD rk);rw[errD_ne HRK.out];rfl,⟨S5,_,_,HS6.out,by simp,HLE.out⟩,HC6.out⟩
end Go.Proofs.YtdjmifaidgbbaaaGreatDoor
