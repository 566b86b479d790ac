/-
  All of a log is read, piece by piece. (Of the logs' seat.)
-/
import Derived.Test.YtdjmifaidgbbaaaGreatDoorT27
set_option linter.unusedVariables false
set_option linter.unusedSimpArgs false
set_option maxHeartbeats 0
set_option maxRecDepth 200000
namespace Go.Proofs.YtdjmifaidgbbaaaGreatDoor
open Go.RowKit Go.Maps
theorem Source.ownR {P:Program}{w:World}{e:TypeId}{a:Option Addr}{n c:Nat}{rs:List Rec}(h:OwnR e w (.slice a n c) rs)(h0:rs≠[]):Source P w 6 (.slice a n c) rs.length (rs.flatMap Rec.cells):=by
 rcases h.2 with ⟨hv,hn⟩ | ⟨g,cap,cur,hv,_,_,hle,_⟩
 ·exact absurd (List.eq_nil_of_length_eq_zero hn) h0
 ·rw[Value.slice.injEq] at hv;obtain⟨rfl,rfl,rfl⟩:=hv
  refine Source.slice (fm_len (f:=Rec.cells) (n:=6) (fun _=>rfl) rs) (fun j u hj=>?_) (fun u hu=>?_)
  ·exact World.ownsRow.cells h (g:=g) rfl j u hj
  ·obtain⟨r,_,hr⟩:=List.mem_flatMap.1 hu
   exact Rec.cells_one r u hr
theorem OwnR.valAt {w:World}{e:TypeId}{v:Value}{rs:List Rec}(h:OwnR e w v rs):∃ a cap,v = .slice a rs.length cap∧rs.length≤cap∧∀ i (h:i<rs.length),∃ g,a=some ⟨g,0,none⟩∧∀ j u,(rs[i].cells)[j]? = some u→w.cell? ⟨g,i*6+j,none⟩=some u:=by
 rcases h.2 with ⟨rfl,hn⟩ | ⟨g,cap,cur,rfl,_,_,hle,_⟩
 ·exact⟨none,0,by rw[hn],by omega,fun i hi=>absurd hi (by omega)⟩
 ·have e1:∀ j,(⟨g,0,none⟩:Addr).add j=⟨g,j,none⟩:=fun j=>by unfold Addr.add;split<;>simp_all
  refine⟨some ⟨g,0,none⟩,cap,rfl,hle,fun i hi=>⟨g,rfl,fun j u hj=>?_⟩⟩
  have:=World.ownsRow.cells h (g:=g) rfl (i*6+j) _ (fm_get (f:=Rec.cells) (n:=6) (fun _=>rfl) rs i hi j _ hj)
  rwa [e1] at this
def Lg.told (g:Lg) (xs:List SgB):List Rec:=recsFrom g.start (allBts xs)
theorem LgOk.off_lt {d:Dk}{g:Lg}{xs:List SgB}(h:LgOk d g xs) {f:Int}:∀ r∈recsFrom f (allBts xs),f≤r.off∧r.off<g.stop:=fun r hr=>by
 have h1:=(List.mem_filter.1 hr).2
 obtain⟨b,hb,h2,h3⟩:=recsOf_offs h.bts.2 r (List.mem_filter.1 hr).1
 obtain⟨x,hx,hb⟩:=List.mem_flatMap.1 hb
 have h4:=(lastEnd_le (h.of x hx).ok (h.of x hx).up).2 b hb
 rw[←(h.of x hx).next] at h4
 have h5:=h.next_le x hx
 unfold ge at h1;have h1:f≤r.off:=by simpa using h1
 exact⟨h1,by omega⟩
theorem lall_any {B:Nat→Prop} {w:World} {p l:Nat} {S:Nat→Prop} {sv:Value} {ss:List (Nat×Value)} {d:Dk} {g:Lg} {xs:List SgB} (h:LgS B w p l S sv ss d g) (hk:LgOk d g xs) (hdir:g.dir.length≤100) (hfew:ss.length≤100000) (most:Int) (hn:(g.told xs).length≤4000) :
  Calls Tryz.prog 13 #[.pointer (some ⟨l,0,none⟩),.int .i64 most] w fun e w'=>∃ v,e = .returned (.tuple #[v,.bool true])∧OwnR 37 w' v (g.told xs)∧(∀ k,v.ownBlock=some k→w.heap.size≤k)∧Chg Nil w w':=by
 have c4:=h.c.cell (j:=4) rfl
 have HST:Hid (∀ w',Chg Nil w w'→Calls Tryz.prog 16 #[.pointer (some ⟨l,0,none⟩)] w' fun e w''=>e = .returned (.int .i64 g.start)∧Chg Nil w' w''):=fun w' hw=>by
  have c4:=(h.nil hw).c.cell (j:=4) rfl
  clear h hk hdir hfew hn;go_enter Tryz.func16,Tryz.ntmps16
  go_wp2_with fail;go_ret;exact⟨rfl,Chg.refl _ _⟩
 have HRD:Hid (∀ w',Chg Nil w w'→∀ f,g.start≤f→f≤g.stop→Calls Tryz.prog 34 #[.pointer (some ⟨l,0,none⟩),.int .i64 f,.int .i64 most] w' fun e w''=>∃ v out,e = .returned (.tuple #[v,.nilIface])∧OwnR 37 w'' v out∧(∀ k,v.ownBlock=some k→w'.heap.size≤k)∧(∃ rest,recsFrom f (allBts xs)=out++rest∧(out=[]→rest=[]))∧Chg Nil w' w''):=fun w' hw f hf1 hf2=>by
  refine (lread_go _ (h.nil hw) hk hdir hfew f most (Nat.le_refl _)).mono ?_
  rintro e w'' ⟨hv,hc⟩
  rcases hv with ⟨hbad,_⟩ | ⟨_,_,v,out,he,hown,hnew,hrd⟩
  ·omega
  ·exact⟨v,out,he,hown,hnew,hrd.from hk.of hk.up,hc⟩
 have HBO:Hid (∀ r∈recsOf (allBts xs),∃ b∈allBts xs,b.base≤r.off∧r.off<b.en):=recsOf_offs hk.bts.2
 have HBLO:Hid (∀ b∈allBts xs,0≤b.base):=rising_mem hk.bts.2 hk.bts.1
 have HUP:Hid (offUp 0 (recsOf (allBts xs))):=recsOf_up hk.bts.2 hk.bts.1
 have HOFF:=Lib.hid (fun (f:Int)=>hk.off_lt (f:=f))
 have HSS:Hid (g.start≤g.stop):=hk.hi
 have HS0:Hid (0≤g.stop∧g.stop≤1099511627776):=hk.stopAt
 obtain⟨st,hst⟩:∃ st,g.start=st:=⟨_,rfl⟩
 obtain⟨sp,hsp⟩:∃ sp,g.stop=sp:=⟨_,rfl⟩
 have e0:g.told xs=recsFrom st (allBts xs):=by unfold Lg.told;rw[hst]
 rw[e0] at hn ⊢
 rw[hst] at HST HRD HSS
 rw[hsp] at HRD HSS HOFF HS0
 have HN:=Lib.hid hn
 clear h hk hdir hfew c4 hst hsp e0 hn;obtain⟨T,hT⟩:∃ T,recsFrom st (allBts xs)=T:=⟨_,rfl⟩
 rw[hT] at HN ⊢
 have HT:=Lib.hid hT
 clear hT;go_enter Tryz.func13,Tryz.ntmps13
 go_wp2_with fail;refine (HST.out w (Chg.refl _ _)).mono ?_
 rintro e w1 ⟨rfl,hc1⟩
 have HC1:=Lib.hid hc1
 clear hc1 HST;go_wp2_with fail;go_loopw [8,6,7] (fun iv ov fv wr=>∃ (wq:World) (i:Nat) (f:Int) (done:List Rec),wq=wr∧iv = .int .i64 i∧fv = .int .i64 f∧Hid (st≤f∧f≤sp)∧OwnR 37 wr ov done∧Hid (done++recsFrom f (allBts xs)=T)∧Hid (i≤done.length)∧(∀ k,ov.ownBlock=some k→w.heap.size≤k)∧Chg Nil w wr) (fun iv _ _ _=>5000-(RowKit.intOf iv).toNat)
 case atStart=>exact⟨_,0,st,[],rfl,rfl,rfl,⟨Int.le_refl _,HSS.out⟩,OwnR.nil _ _,HT.out,Nat.zero_le _,(fun k hk=>by cases hk),HC1.out⟩
 case round=>
  obtain⟨wr,i,f,done,rfl,rfl,rfl,hfr,hown,hdn,hid,hob,hc⟩:=hrel
  have HFR:Hid _:=hfr
  have HDN:Hid _:=hdn
  have HID:Hid _:=hid
  have HC:=Lib.hid hc
  have HOB:=Lib.hid hob
  have hdl:done.length≤T.length:=by rw[←HDN.out,List.length_append];omega
  have hi5:(i:Int)<5000:=by have h1:=HID.out;have h2:=HN.out;omega
  have HDL:Hid (done.length≤4000):=by have h2:=HN.out;unfold Hid;omega
  obtain⟨oa,oc,hoe⟩:∃ oa oc,u6 = .slice oa done.length oc:=⟨_,_,hown.form⟩
  subst hoe;have HOW:=Lib.hid hown
  have HR1:=Lib.hid (HRD.out wr HC.out f HFR.out.1 HFR.out.2)
  clear hfr hdn hid hc hob hown hdl;go_wp2_with fail;refine HR1.out.mono ?_
  rintro e w2 ⟨v,out,rfl,hv,hvb,⟨rest,he,hz⟩,hc2⟩
  have HC2:=Lib.hid hc2
  have HOW2:=Lib.hid (HOW.out.chg hc2 (fun _ _ h=>h))
  obtain⟨va,vc,rfl,hvc,hvcell⟩:=hv.valAt
  have HV:=Lib.hid hv
  have HE:=Lib.hid he
  have HZ:=Lib.hid hz
  have HVL:Hid (out.length≤4000):=by
   have h1:=congrArg List.length HDN.out
   rw[he,List.length_append,List.length_append] at h1;have h2:=HN.out
   unfold Hid;omega
  clear hv he hz hc2 hvc HR1;by_cases h0:out=[]
  ·subst h0;have HTD:Hid (done=T):=by
    have h1:=HDN.out
    rw[HE.out,HZ.out rfl,List.nil_append,List.append_nil] at h1
    exact h1
   clear hvcell;go_wp2_with fail;go_ret2;refine⟨_,rfl,?_,HOB.out,HC.out.trans HC2.out (fun _ h=>h.elim)⟩
   rw[←HTD.out];exact HOW2.out
  ·have hol:out.length≠0:=fun h=>h0 (List.eq_nil_of_length_eq_zero h)
   have ho0:((out.length:Int)==0)=false:=beq_eq_false_iff_ne.2 (by omega)
   have hk0:(1:Int)≤(out.length:Int):=by omega
   have hk1:(out.length:Int)-1<(out.length:Int):=by omega
   obtain⟨g2,hg2,hz⟩:=hvcell (out.length-1) (by omega)
   subst hg2;obtain⟨z,hzz⟩:∃ z:Rec,out[out.length-1]'(by omega)=z:=⟨_,rfl⟩
   have hlast:out.getLast? = some z:=by rw[List.getLast?_eq_getElem?,List.getElem?_eq_getElem (by omega),hzz]
   have z0:=hz 0 _ rfl
   rw[hzz] at z0;have HSTEP:Hid (recsFrom (z.off+1) (allBts xs)=rest):=filter_step HUP.out HE.out z hlast
   have hzm:z∈recsFrom f (allBts xs):=by rw[HE.out];exact List.mem_append_left _ (List.mem_of_getLast? hlast)
   have hzo:=HOFF.out f z hzm
   have HZO:Hid (f≤z.off∧z.off<sp):=hzo
   have HH63:Hid (done.length+out.length≤maxLen):=by have h1:=HDL.out;have h2:=HVL.out;unfold Hid maxLen;omega
   have HBY:Hid ((done.length+out.length)*64≤140737488355328):=by have h1:=HDL.out;have h2:=HVL.out;unfold Hid;omega
   have HH0:=Lib.hid h0
   have hol4:out.length≤4000:=HVL.out
   have HCB:Hid (∀ w',Chg (fun k=>(Value.slice oa done.length oc).ownBlock=some k) w2 w'→Chg Nil w w'):=fun w' hw=>(HC.out.trans HC2.out (fun _ h=>h.elim)).trans hw (fun k hk=>.inr (HOB.out k hk))
   have HGB:Hid (wr.heap.size≤g2):=hvb g2 rfl
   have HOLT:Hid (∀ k,(Value.slice oa done.length oc).ownBlock=some k→k<wr.heap.size):=ownsRow_lt HOW.out
   have HZ2:Hid (wr.heap.size≤w2.heap.size∧w.heap.size≤w2.heap.size):=⟨HC2.out.size,(HC.out.trans HC2.out (fun _ h=>h.elim)).size⟩
   have HDT:Hid ((done++out)++recsFrom (z.off+1) (allBts xs)=T):=by unfold Hid;rw[HSTEP.out,List.append_assoc,←HE.out];exact HDN.out
   have HFR2:Hid (st≤z.off+1∧z.off+1≤sp):=by have h1:=HFR.out;have h2:=HZO.out;exact⟨by omega,by omega⟩
   obtain⟨zo,hzo'⟩:∃ zo,z.off=zo:=⟨_,rfl⟩
   have z0:w2.cell? ⟨g2,(out.length-1)*6+0,none⟩=some (.int .i64 z.off):=z0
   rw[hzo'] at z0 HDT HFR2
   rw[Nat.add_zero] at z0;have hzb:-1≤zo∧zo≤1099511627776:=by have h1:=HZO.out;have h2:=HS0.out;have h3:=HFR2.out;have h4:=HOFF.out f z hzm;have h5:=hi5;rw[hzo'] at h1;exact⟨by
    obtain⟨b,hb,h6,_⟩:∃ b∈allBts xs,b.base≤z.off∧z.off<b.en:=HBO.out z (List.mem_filter.1 hzm).1
    have:=HBLO.out b hb
    omega,by omega⟩
   clear hz hzz hlast hzm hzo hzo' hol hvb hvcell h0;go_wp2_with (at_builtin;go_must (refine wpList_append_grew rfl (.tmp 30) (.tmp 31) 33 33 rfl recsT _ Tryz.underlying33 (by intro _;simp) _ _ _ rfl HOW2.out _ out.length (out.flatMap Rec.cells) rfl (Source.ownR HV.out HH0.out) HH63.out HBY.out ?_);intro v2 w3 hown2 hg2 _;obtain⟨x2,n2,c2,rfl⟩:=ownsRow_form hown2;have z0':=hg2.chg.cell z0 (fun h=>by have h1:=HOLT.out _ h;have h2:=HGB.out;have h1:g2<wr.heap.size:=h1;omega);have HOWN2:=Lib.hid hown2;have HG2:=Lib.hid hg2;clear hown2 hg2 z0)
   go_roundw
   case rel=>
    refine⟨_,i+1,zo+1,done++out,rfl,by go_num,by first | rfl | go_num,HFR2.out,?_,HDT.out,?_,fun k hk=>?_,HCB.out _ HG2.out.chg⟩
    ·have h:=HOWN2.out
     unfold OwnR;rw[List.length_append,List.flatMap_append];exact h
    ·have h1:=HID.out
     have h2:out.length≠0:=fun h=>HH0.out (List.eq_nil_of_length_eq_zero h)
     unfold Hid;rw[List.length_append];omega
    ·rcases HG2.out.own k hk with h | h
     ·exact HOB.out k h
     ·exact Nat.le_trans HZ2.out.2 h
   case measure=>exact meas_two (n:=5000) (i:=i) (by have h1:=HID.out;have h2:=HDL.out;omega)
theorem DsS.grow {B:Nat→Prop}{w w':World}{p:Nat}{S:Nat→Prop}{d:Dk}(h:DsS B w p S d)(hc:Chg Nil w w'):DsS (fun k=>B k∨(w.heap.size≤k∧k<w'.heap.size)) w' p S d:=by
 have h2:=h.nil hc
 refine⟨fun k hk=>hk.elim (h2.lo k) (·.2),h2.a,fun k hk=>⟨?_,(h2.sl k hk).2⟩⟩
 rintro (hb | hb)
 ·exact (h2.sl k hk).1 hb
 ·have:=(h.sl k hk).2;omega
theorem OwnT.one {w:World}{r s:Nat}(h:Box w r [.pointer (some ⟨s,0,none⟩)] 104):OwnT w (.slice (some ⟨r,0,none⟩) 1 1) [s]:=
 ⟨rfl,.inr ⟨r,1,#[.pointer (some ⟨s,0,none⟩)],rfl,Nat.zero_le _,h,Nat.le_refl _,by unfold maxLen;omega,rfl,rfl⟩⟩
theorem LgS.start {B:Nat→Prop}{w0 w1 w2 w3:World}{p l s r:Nat}{S':Nat→Prop}{d':Dk}{g:Lg}{sg:Sg}(hB:∀ k,B k→k<w0.heap.size)
  (hs:SgS (fun k=>B k∨(w0.heap.size≤k∧k<w1.heap.size)) w2 p s S' (.slice none 0 0) d' sg)(hl:w0.heap.size≤l∧l<w1.heap.size)(hsn:w1.heap.size≤s)(hz:w1.heap.size≤w2.heap.size)
  (hc:Chg (fun k=>k=l) w2 w3)(hb:Box w3 l (g.cells p (.slice (some ⟨r,0,none⟩) 1 1)) 99)(ho:OwnT w3 (.slice (some ⟨r,0,none⟩) 1 1) [s])(hr:w2.heap.size≤r)(hg:g.segs=[sg]) :
  LgS B w3 p l S' (.slice (some ⟨r,0,none⟩) 1 1) [(s,.slice none 0 0)] d' g:=by
 have hz3:=hc.size
 have hT:∀ k,THas [(s,.slice none 0 0)] k→k=s:=by
  rintro k ⟨x,hx,hk⟩
  rw[List.mem_singleton.1 hx] at hk
  exact hk.elim id (fun e=>by cases e)
 have hL:∀ k,LHas l (.slice (some ⟨r,0,none⟩) 1 1) k→k=l∨k=r:=by
  rintro k (hk | hk)
  ·exact .inl hk
  ·exact .inr (Option.some.inj hk).symm
 have hsl:=hs.m.lt s (.inl rfl)
 refine⟨fun k hk=>Nat.lt_of_lt_of_le (hs.lo k (.inl hk)) hz3,hs.a.chg hc (fun k hk e=>(hs.sl k hk).1 (.inr (e ▸ hl))),hb,ho,by rw[hg];rfl,fun i hi=>?_,fun k hk=>⟨fun h=>(hs.sl k hk).1 (.inl h),fun h=>?_,fun h=>?_,Nat.lt_of_lt_of_le (hs.sl k hk).2 hz3⟩,fun k hk=>⟨fun h=>?_,fun h=>?_⟩,fun k hk h=>?_,fun i j hi hj hij=>?_⟩
 ·have hi0:i=0:=by simpa using hi
  subst hi0;have h1:=hs.m.chg hc (fun k hk e=>by
   have h2:k=s:=hk.elim id (fun e=>by cases e)
   omega)
  simp only[hg]
  exact h1
 ·rcases hL k h with rfl | rfl
  ·exact (hs.sl k hk).1 (.inr hl)
  ·have:=(hs.sl k hk).2;omega
 ·exact hs.ap s (.inl rfl) (hT k h ▸ hk)
 ·have:=hB k h
  rcases hL k hk with rfl | rfl<;>omega
 ·have:=hT k h
  rcases hL k hk with rfl | rfl<;>omega
 ·have:=hB k h
  have:=hT k hk
  omega
 ·have h1:i=0:=by simpa using hi
  have h2:j=0:=by simpa using hj
  omega
def newLg (dir:List UInt8) (most start:Int) (n:Nat):Lg:=⟨dir,most,[⟨segName dir n,n,[],0⟩],start,start,false⟩
structure NewAt (B:Nat→Prop) (w':World) (p l:Nat) (dir:List UInt8) (most:Int) (n room:Nat) (S':Nat→Prop) (sv:Value) (s:Nat) (d':Dk):Prop where
 lg:LgS B w' p l S' sv [(s,.slice none 0 0)] d' (newLg dir most n n)
 ok:LgOk d' (newLg dir most n n) [(⟨segName dir n,n,[],0⟩,[])]
 left:d'.left = -1
 room:d'.room=room
 used:d'.used=0
 files:d'.fs.length=1
theorem new_disk {r:Nat}{nm:Nm}(hk:dkName nm=true):(Dk.fresh r).make nm=(0,(Dk.fresh r).put nm ⟨[],0⟩)∧((Dk.fresh r).put nm ⟨[],0⟩).sync nm=(0,(Dk.fresh r).put nm ⟨[],0⟩):=by
 refine⟨?_,?_⟩
 ·unfold Dk.make;rw[if_neg (by simp[Dk.does,didB,Dk.fresh]),if_neg (by rw[hk];simp)]
  rfl
 ·unfold Dk.sync Dk.at;rw[if_neg (by simp[Dk.does,didB,Dk.fresh,Dk.put])]
  simp[Dk.find,Dk.put,Dk.fresh,Dk.turn,Dk.step,stepL]
theorem new_ok {dir:List UInt8}{most:Int}{n r:Nat}(hn:n≤1099511627776)(hr:r≤1048576)(hk:∀ n:Nat,n≤1099511627776→dkName (segName dir n)=true):LgOk ((Dk.fresh r).put (segName dir n) ⟨[],0⟩) (newLg dir most n n) [(⟨segName dir n,n,[],0⟩,[])]:=by
 have hfs:((Dk.fresh r).put (segName dir n) ⟨[],0⟩).fs=[(segName dir n,⟨[],0⟩)]:=rfl
 have hf:((Dk.fresh r).put (segName dir n) ⟨[],0⟩).find (segName dir n)=some ⟨[],0⟩:=by unfold Dk.find;rw[hfs];simp
 have hok:(Dk.fresh r).Ok:=⟨by simp[Dk.fresh,Dk.names],by simp[Dk.fresh],by simp[Dk.fresh,Dk.used],hr,by simp[Dk.fresh],by simp[Dk.fresh],by simp[Dk.fresh,Dk.names]⟩
 have hmk:=hok.make (segName dir n)
 rw[(new_disk (hk n hn)).1] at hmk
 refine⟨rfl,by simp,fun x hx=>?_,trivial,fun m hm hs=>?_,hk,hmk,fun x hx=>?_,?_⟩
 ·rw[List.mem_singleton.1 hx]
  exact⟨⟨rfl,rfl,fun b hb=>(by cases hb),trivial⟩,by show segName dir n=segName dir (n:Int).toNat;rw[Int.toNat_natCast],by show (0:Int)≤(n:Int);omega,by show (n:Int)≤1099511627776;omega,0,hf⟩
 ·refine⟨_,List.mem_singleton.2 rfl,?_⟩
  have hs:(((Dk.fresh r).put (segName dir n) ⟨[],0⟩).find (segName dir m)).isSome=true:=hs
  rw[find_put] at hs;split at hs
  ·next e=>
   have:=segName_inj hm hn e
   show (n:Int)=m
   omega
  ·simp[Dk.find,Dk.fresh] at hs
 ·obtain rfl:=Option.some.inj hx
  exact Int.le_refl _
 ·exact Int.le_refl _
theorem lopen_new {B:Nat→Prop} {w:World} {p:Nat} {S:Nat→Prop} {r:Nat} (h:DsS B w p S (Dk.fresh r)) (hr:r≤1048576) (hT:Tabs w) (hTB:TabB B) (dir:ByteArray) (hdir:dir.size≤100) (most:Int) (hm:100≤most∧most≤1048576) (n:Nat) (hn:n≤1099511627776) (hk:∀ n:Nat,n≤1099511627776→dkName (segName dir.data.toList n)=true) :
  Calls Tryz.prog 10 #[.pointer (some ⟨p,0,none⟩),.string dir,.int .i64 most,.int .i64 (n:Nat)] w fun e w'=>∃ l S' sv s d',e = .returned (.tuple #[.pointer (some ⟨l,0,none⟩),.nilIface])∧NewAt B w' p l dir.data.toList most n r S' sv s d'∧w.heap.size≤l∧Chg (Off B) w w':=by
 have h1:¬most<100:=by omega
 have h2:¬(1048576:Int)<most:=by omega
 have h3:¬(n:Int)<0:=by omega
 have h4:¬(1099511627776:Int)<(n:Int):=by omega
 have HM:=Lib.hid hm
 have HH:=Lib.hid h
 have HT:=Lib.hid hT
 have HTB:=Lib.hid hTB
 have HN:=Lib.hid hn
 have HK:=Lib.hid hk
 have HR:=Lib.hid hr
 have HLI:Hid (∀ w',Chg Nil w w'→∀ bg:ByteArray,Calls Tryz.prog 49 #[.pointer (some ⟨p,0,none⟩),.string bg] w' fun e w''=>∃ a c,e = .returned (.slice a 0 c)∧Chg Nil w' w''):=fun w' hw bg=>by
  obtain⟨mb,fs,sv,con,hd,hfs,hS,hok⟩:=(h.nil hw).a
  have hf0:fs=[]:=by
   have h1:([]:List (Nm×Fl))=fs.map (fun q=>(q.1,con q.2)):=hfs
   cases fs with
   | nil=>rfl
   | cons _ _=>simp at h1
  subst hf0;refine (list_any hd (by simp) bg).mono ?_
  rintro e w'' ⟨v,he,ho,hc⟩
  have hl0:sortN (begins bg.data.toList (([]:List (Nm×Nat)).map (·.1)))=[]:=by simp[begins,sortN]
  rw[hl0] at ho;rcases ho.2 with ⟨hv,_⟩ | ⟨g,cap,cur,hv,_⟩
  ·exact⟨none,0,by rw[he,hv],hc⟩
  ·exact⟨_,cap,by rw[he,hv];rfl,hc⟩
 have HSZ:Hid (dir.size≤100):=hdir
 clear h hT hTB hn hk hm hr;go_enter Tryz.func10,Tryz.ntmps10
 go_wp2_with fail;have hbx:Box (w.alloc (.cells #[.pointer (some ⟨p,0,none⟩),.string dir,.int .i64 most,.slice none 0 0,.int .i64 0,.int .i64 0,.bool false] 99)) w.heap.size [.pointer (some ⟨p,0,none⟩),.string dir,.int .i64 most,.slice none 0 0,.int .i64 0,.int .i64 0,.bool false] 99:=Box.new _ _ _
 have hal:Chg Nil w (w.alloc (.cells #[.pointer (some ⟨p,0,none⟩),.string dir,.int .i64 most,.slice none 0 0,.int .i64 0,.int .i64 0,.bool false] 99)):=(Chg.refl Nil w).alloc _
 have hsz1:(w.alloc (.cells #[.pointer (some ⟨p,0,none⟩),.string dir,.int .i64 most,.slice none 0 0,.int .i64 0,.int .i64 0,.bool false] 99)).heap.size=w.heap.size+1:=by simp
 generalize w.alloc (.cells #[.pointer (some ⟨p,0,none⟩),.string dir,.int .i64 most,.slice none 0 0,.int .i64 0,.int .i64 0,.bool false] 99)=w1 at *;obtain⟨l,hl⟩:∃ l,w.heap.size=l:=⟨_,rfl⟩
 have HL:=Lib.hid hl
 have HL1:Hid (w1.heap.size=l+1):=by unfold Hid;omega
 rw[hl] at hbx ⊢
 have HAL:=Lib.hid hal
 have HBX:=Lib.hid hbx
 clear hl hsz1 hal hbx;refine (HLI.out w1 HAL.out _).mono ?_
 rintro e w2 ⟨la,lc,rfl,hc2⟩
 have HC2:Hid (Chg Nil w w2):=HAL.out.trans hc2 (fun _ h=>h.elim)
 have HBX2:=Lib.hid (HBX.out.chg hc2 (fun h=>h))
 have HZ2:Hid (w1.heap.size≤w2.heap.size):=hc2.size
 clear hc2 HLI HBX HAL;go_wp2_with fail;go_loopw [48] (fun iv wr=>∃ (wq:World),wq=wr∧iv = .int .i64 0∧Chg Nil w2 wr) (fun _ _=>0)
 case atStart=>exact⟨_,rfl,rfl,Chg.refl _ _⟩
 case round=>
  obtain⟨w3,rfl,rfl,hc3⟩:=hrel
  have HBX3:=Lib.hid (HBX2.out.chg hc3 (fun h=>h))
  have HC3:Hid (Chg Nil w w3):=HC2.out.trans hc3 (fun _ h=>h.elim)
  have HZ3:Hid (w1.heap.size≤w3.heap.size):=Nat.le_trans HZ2.out hc3.size
  clear hc3;have c6:=HBX3.out.cell (j:=6) rfl
  have f6:=HBX3.out.free 6
  have hset:Chg (fun k=>k=l) w3 (w3.setCell ⟨l,6,none⟩ (.bool false)):=(Chg.refl (fun k=>k=l) _).setCell (.inl rfl) _
  have hb3:Box (w3.setCell ⟨l,6,none⟩ (.bool false)) l [.pointer (some ⟨p,0,none⟩),.string dir,.int .i64 most,.slice none 0 0,.int .i64 0,.int .i64 0,.bool false] 99:=HBX3.out.set 6 _
  go_upto_region 24 with fail;have HBX4:=Lib.hid hb3
  have HC4:Hid (Chg Nil w (w3.setCell ⟨l,6,none⟩ (.bool false))):=HC3.out.trans hset (fun k hk=>.inr (by have:=HL.out;omega))
  have HZ4:Hid (w1.heap.size≤(w3.setCell ⟨l,6,none⟩ (.bool false)).heap.size):=Nat.le_trans HZ3.out hset.size
  clear hset hb3 c6 f6 HBX3 HC3 HZ3 HC2;generalize w3.setCell ⟨l,6,none⟩ (.bool false)=w4 at *
  have c3:=HBX4.out.cell (j:=3) rfl
  obtain⟨nm,hnm⟩:∃ nm,segName dir.data.toList n=nm:=⟨_,rfl⟩
  have HNM:=Lib.hid hnm
  have HKN:Hid (dkName nm=true):=by rw[←hnm];exact HK.out n HN.out
  have HMK:Hid (Calls Tryz.prog 54 #[.pointer (some ⟨p,0,none⟩),.string dir,.int .i64 (n:Nat)] w4 fun e w'=>Chg S w4 w'∧∃ s S',e = .returned (.tuple #[.pointer (some ⟨s,0,none⟩),.nilIface])∧w4.heap.size≤s∧SgS (fun k=>B k∨(w.heap.size≤k∧k<w4.heap.size)) w' p s S' (.slice none 0 0) ((Dk.fresh r).put nm ⟨[],0⟩) ⟨nm,n,[],0⟩):=by
   have h1:=smake_any (HH.out.grow HC4.out) (HT.out.chg HC4.out) (fun m hm k hk=>.inl (HTB.out m hm k hk)) dir HSZ.out n HN.out
   rw[hnm,(new_disk HKN.out).1] at h1
   refine h1.mono ?_
   rintro e w' ⟨hc,S',hds,hcase⟩
   rcases hcase with ⟨_,s,hs,he,hsg⟩ | ⟨hne,_⟩
   ·exact⟨hc,s,S',he,hs,hsg⟩
   ·exact absurd rfl hne
  clear hnm;go_wp2_with fail;refine HMK.out.mono ?_
  rintro e w5 ⟨hc5,s,S',rfl,hs,hsg⟩
  have HSG:=Lib.hid hsg
  have HSN:=Lib.hid hs
  have HLB:Hid (¬S l):=fun hS=>by have:=(HH.out.sl l hS).2;have:=HL.out;omega
  have HBX5:=Lib.hid (HBX4.out.chg hc5 HLB.out)
  have HC5:=Lib.hid hc5
  have hb6:Box (w5.alloc (.cells #[.pointer (some ⟨s,0,none⟩)] 104)) l [.pointer (some ⟨p,0,none⟩),.string dir,.int .i64 most,.slice none 0 0,.int .i64 0,.int .i64 0,.bool false] 99:=HBX5.out.chg ((Chg.refl Nil w5).alloc _) (fun h=>h)
  have hrow:=Box.new w5 [.pointer (some ⟨s,0,none⟩)] 104
  have c3:=hb6.cell (j:=3) rfl
  have f3:=hb6.free 3
  have HB6:=Lib.hid hb6
  have HROW:=Lib.hid hrow
  clear hsg hs hc5 HMK HBX4 hb6 hrow;go_upto_region 29 with fail;obtain⟨r0,hr0⟩:∃ r0,w5.heap.size=r0:=⟨_,rfl⟩
  have HR0:=Lib.hid hr0
  have hset:Chg (fun k=>k=l) (w5.alloc (.cells #[.pointer (some ⟨s,0,none⟩)] 104)) ((w5.alloc (.cells #[.pointer (some ⟨s,0,none⟩)] 104)).setCell ⟨l,3,none⟩ (.slice (some ⟨w5.heap.size,0,none⟩) 1 1)):=(Chg.refl (fun k=>k=l) _).setCell (.inl rfl) _
  have hrl:¬w5.heap.size=l:=by have h1:=HC4.out.size;have h2:=HC5.out.size;have h3:=HL1.out;have h4:=HZ4.out;omega
  have hrow6:=HROW.out.chg hset hrl
  have hbx6:=HB6.out.set 3 (.slice (some ⟨w5.heap.size,0,none⟩) 1 1)
  have hc56:Chg (fun k=>k=l) w5 ((w5.alloc (.cells #[.pointer (some ⟨s,0,none⟩)] 104)).setCell ⟨l,3,none⟩ (.slice (some ⟨w5.heap.size,0,none⟩) 1 1)):=(((Chg.refl Nil w5).alloc _).weak (fun _ h=>h.elim)).trans hset (fun k hk=>.inl hk)
  clear c3 f3 hset hrl;generalize (w5.alloc (.cells #[.pointer (some ⟨s,0,none⟩)] 104)).setCell ⟨l,3,none⟩ (.slice (some ⟨w5.heap.size,0,none⟩) 1 1)=w6 at *
  rw[hr0] at hrow6 hbx6
  have hdd:(⟨dir.data.toList.toArray⟩:ByteArray)=dir:=by cases dir;simp
  obtain⟨g0,hg0⟩:∃ g0:Lg,(⟨dir.data.toList,most,[⟨nm,n,[],0⟩],0,0,false⟩:Lg)=g0:=⟨_,rfl⟩
  have hb0:Box w6 l (g0.cells p (.slice (some ⟨r0,0,none⟩) 1 1)) 99:=by
   rw[←hg0];unfold Lg.cells;rw[hdd];exact hbx6
  have hlg:LgS B w6 p l S' (.slice (some ⟨r0,0,none⟩) 1 1) [(s,.slice none 0 0)] ((Dk.fresh r).put nm ⟨[],0⟩) g0:=LgS.start (w0:=w) (w1:=w4) HH.out.lo HSG.out ⟨by have:=HL.out;omega,by have h3:=HL1.out;have h4:=HZ4.out;omega⟩ HSN.out HC5.out.size hc56 hb0 (OwnT.one hrow6) (by omega) (by rw[←hg0])
  have HLG:=Lib.hid hlg
  have HG0:=Lib.hid hg0
  have HDD:=Lib.hid hdd
  have HC6:Hid (Chg (Off B) w w6):=((HC4.out.weak (S':=Off B) (fun _ h=>h.elim)).trans (HC5.out.weak (S':=Off B) (fun k hk=>.inl (HH.out.sl k hk).1)) (fun k hk=>.inl hk)).trans (hc56.weak (S':=Off B) (fun k hk=>.inl (fun hb=>by have:=HH.out.lo k hb;have:=HL.out;omega))) (fun k hk=>.inl hk)
  clear hr0 hrow6 hbx6 hb0 hlg hg0 hdd hc56;have HLA:Hid (∀ w',LgS B w' p l S' (.slice (some ⟨r0,0,none⟩) 1 1) [(s,.slice none 0 0)] ((Dk.fresh r).put nm ⟨[],0⟩) g0→Calls Tryz.prog 55 #[.pointer (some ⟨l,0,none⟩)] w' fun e w''=>e = .returned (.pointer (some ⟨s,0,none⟩))∧Chg Nil w' w''):=fun w' h=>llast_any h.t (by simp) (by simp)
  have HNL:Hid (nm.length≤1000):=by have:=dkName_len HKN.out;unfold Hid;omega
  have HSY:Hid (∀ w',LgS B w' p l S' (.slice (some ⟨r0,0,none⟩) 1 1) [(s,.slice none 0 0)] ((Dk.fresh r).put nm ⟨[],0⟩) g0→Calls Tryz.prog 56 #[.pointer (some ⟨s,0,none⟩)] w' fun e w''=>e = .returned .nilIface∧(∃ S'',LgS B w'' p l S'' (.slice (some ⟨r0,0,none⟩) 1 1) [(s,.slice none 0 0)] ((Dk.fresh r).put nm ⟨[],0⟩) g0)∧Chg (Off B) w' w''):=fun w' h=>by
   have h1:=h.seg 0 (by simp)
   have e1:g0.segs[0]'(by rw[←h.len];simp)=⟨nm,n,[],0⟩:=by simp only[←HG0.out];rfl
   rw[e1] at h1;have h2:=ssync_any h1 HNL.out
   have e2:((Dk.fresh r).put nm ⟨[],0⟩).sync (⟨nm,(n:Int),[],0⟩:Sg).name=(0,(Dk.fresh r).put nm ⟨[],0⟩):=(new_disk HKN.out).2
   rw[e2] at h2;refine h2.mono ?_
   rintro e w'' ⟨h3,⟨S'',h4⟩,h5⟩
   have h6:=h.back (i:=0) (by simp) h4 h5
   refine⟨h3,⟨S'',?_⟩,offI h5⟩
   have e3:({ g0 with segs:=g0.segs.set 0 ⟨nm,n,[],0⟩ }:Lg)=g0:=by rw[←HG0.out];rfl
   rw[e3] at h6;exact h6
  have HEN:Hid (∀ w' S'' g',g'.segs=g0.segs→LgS B w' p l S'' (.slice (some ⟨r0,0,none⟩) 1 1) [(s,.slice none 0 0)] ((Dk.fresh r).put nm ⟨[],0⟩) g'→Calls Tryz.prog 15 #[.pointer (some ⟨l,0,none⟩)] w' fun e w''=>e = .returned (.int .i64 (n:Nat))∧Chg Nil w' w''):=fun w' S'' g' hgs h=>by
   have hla:g'.last=⟨nm,n,[],0⟩:=by unfold Lg.last;rw[hgs,←HG0.out];rfl
   have h1:=lend_any h.t (by simp) (by simp) (by rw[hla];exact Nat.zero_le _)
   have h2:g'.stop=(n:Int):=by unfold Lg.stop;rw[hla];rfl
   rw[h2] at h1;exact h1
  go_wp2_with fail;refine (HLA.out w6 HLG.out).mono ?_
  rintro e w7 ⟨rfl,hc7⟩
  have HLG7:=Lib.hid (HLG.out.nil hc7)
  have HC7:Hid (Chg (Off B) w w7):=HC6.out.trans hc7 (fun _ h=>h.elim)
  clear hc7;go_wp2_with fail;refine (HSY.out w7 HLG7.out).mono ?_
  rintro e w8 ⟨rfl,⟨S8,hlg8⟩,hc8⟩
  have HLG8:=Lib.hid hlg8
  have HC8:Hid (Chg (Off B) w w8):=HC7.out.trans hc8 (fun k hk=>.inl hk)
  clear hlg8 hc8;go_wp2_with fail;refine (HEN.out w8 S8 g0 rfl HLG8.out).mono ?_
  rintro e w9 ⟨rfl,hc9⟩
  have HLG9:=Lib.hid (HLG8.out.nil hc9)
  have HC9:Hid (Chg (Off B) w w9):=HC8.out.trans hc9 (fun _ h=>h.elim)
  clear hc9;have c5:=HLG9.out.c.cell (j:=5) rfl
  have f5:=HLG9.out.c.free 5
  go_upto_region 33 with fail;have hset:Chg (fun k=>k=l) w9 (w9.setCell ⟨l,5,none⟩ (.int .i64 (n:Nat))):=(Chg.refl (fun k=>k=l) _).setCell (.inl rfl) _
  have hlg10:LgS B (w9.setCell ⟨l,5,none⟩ (.int .i64 (n:Nat))) p l S8 (.slice (some ⟨r0,0,none⟩) 1 1) [(s,.slice none 0 0)] ((Dk.fresh r).put nm ⟨[],0⟩) { g0 with safe:=n }:=HLG9.out.cells hset (HLG9.out.c.set 5 _) rfl
  have HLG10:=Lib.hid hlg10
  have HC10:Hid (Chg (Off B) w (w9.setCell ⟨l,5,none⟩ (.int .i64 (n:Nat)))):=HC9.out.trans (HLG9.out.offL hset) (fun k hk=>.inl hk)
  clear hset hlg10 c5 f5;generalize w9.setCell ⟨l,5,none⟩ (.int .i64 (n:Nat))=w10 at *
  have c3:=HLG10.out.c.cell (j:=3) rfl
  have z0:w10.cell? ⟨r0,0,none⟩=some (.pointer (some ⟨s,0,none⟩)):=by
   obtain⟨a,cap,hv,_,hcell⟩:=HLG10.out.o.val
   obtain⟨b,hb,hz⟩:=hcell 0 (by simp)
   rw[hb] at hv;obtain rfl:=(Addr.mk.inj (Option.some.inj (Value.slice.inj hv).1)).1
   exact hz
  have HBA:Hid (Calls Tryz.prog 57 #[.pointer (some ⟨s,0,none⟩)] w10 fun e w'=>e = .returned (.int .i64 (n:Nat))∧w'=w10):=by
   have h1:=HLG10.out.m 0 (by simp)
   have h2:=sbase_any h1
   have e1:(({ g0 with safe:=(n:Int) }:Lg).segs[0]'(by rw[←HLG10.out.len];simp)).base=(n:Int):=by simp only[←HG0.out];rfl
   rw[e1] at h2;exact h2
  go_wp2_with fail;refine HBA.out.mono ?_
  rintro e w11 ⟨rfl,hw⟩
  obtain rfl:=hw
  clear c3 z0;go_wp2_with fail;refine (HEN.out _ S8 { g0 with safe:=n } rfl HLG10.out).mono ?_
  rintro e w12 ⟨rfl,hc12⟩
  have HLG12:=Lib.hid (HLG10.out.nil hc12)
  have HC12:Hid (Chg (Off B) w w12):=HC10.out.trans hc12 (fun _ h=>h.elim)
  clear hc12;have c4:=HLG12.out.c.cell (j:=4) rfl
  have f4:=HLG12.out.c.free 4
  go_wp2_with fail;go_ret2;have hset:Chg (fun k=>k=l) w12 (w12.setCell ⟨l,4,none⟩ (.int .i64 (n:Nat))):=(Chg.refl (fun k=>k=l) _).setCell (.inl rfl) _
  have hlg13:LgS B (w12.setCell ⟨l,4,none⟩ (.int .i64 (n:Nat))) p l S8 (.slice (some ⟨r0,0,none⟩) 1 1) [(s,.slice none 0 0)] ((Dk.fresh r).put nm ⟨[],0⟩) { g0 with safe:=n,start:=n }:=HLG12.out.cells hset (HLG12.out.c.set 4 _) rfl
  have e9:({ g0 with safe:=n,start:=n }:Lg)=newLg dir.data.toList most n n:=by rw[←HG0.out,←HNM.out];rfl
  rw[e9] at hlg13;have hno:=new_ok (most:=most) HN.out HR.out HK.out
  rw[HNM.out] at hno;have hno2:LgOk ((Dk.fresh r).put nm ⟨[],0⟩) (newLg dir.data.toList most n n) [(⟨segName dir.data.toList n,n,[],0⟩,[])]:=by rw[HNM.out];exact hno
  exact⟨l,S8,_,s,_,rfl,⟨hlg13,hno2,rfl,rfl,rfl,rfl⟩,by have:=HL.out;omega,HC12.out.trans (HLG12.out.offL hset) (fun k hk=>.inl hk)⟩
end Go.Proofs.YtdjmifaidgbbaaaGreatDoor
