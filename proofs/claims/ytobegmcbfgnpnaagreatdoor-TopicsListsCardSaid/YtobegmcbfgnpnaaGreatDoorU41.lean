/-
  A log is opened, whatever the disk has of it: the walk. (Of the logs' seat.)
-/
import Derived.Test.YtobegmcbfgnpnaaGreatDoorU40
set_option linter.unusedVariables false
set_option linter.unusedSimpArgs false
set_option maxHeartbeats 0
set_option maxRecDepth 200000
namespace Go.Proofs.YtobegmcbfgnpnaaGreatDoor
open Go.RowKit Go.Maps
theorem lopen_any {B:Nat→Prop} {w:World} {p:Nat} {S:Nat→Prop} {d:Dk} (h:DsS B w p S d) (hT:TabE w) (hTB:TabEB B) (dir:List UInt8) (hdir:dir.length≤100) (most:Int) (hm:100≤most∧most≤1048576) (n:Nat) (hn:n≤1099511627776) (C:Nat→List Bt×List UInt8)
  (hC:∀ x∈d.list (dir++[47]),¬progBase dir x<0→FdOk d dir (progBase dir x).toNat (C (progBase dir x).toNat)) :
  Calls Tryz.prog 65 #[.pointer (some ⟨p,0,none⟩),.string ⟨dir.toArray⟩,.int .i64 most,.int .i64 (n:Nat)] w fun e w'=>LOpenAt B w w' p (openLg C dir most n d) e:=by
 have h1:¬most<100:=by omega
 have h2:¬(1048576:Int)<most:=by omega
 have h3:¬(n:Int)<0:=by omega
 have h4:¬(1099511627776:Int)<(n:Int):=by omega
 have HH:=Lib.hid h
 have HT:=Lib.hid hT
 have HTB:=Lib.hid hTB
 have HN:=Lib.hid hn
 have HDI:=Lib.hid hdir
 have HLI:Hid (∀ w',Chg Nil w w'→∀ bg:ByteArray,bg.data.toList=dir++[47]→Calls Tryz.prog 28 #[.pointer (some ⟨p,0,none⟩),.string bg] w' fun e w''=>∃ v,e = .returned v∧OwnS w'.heap.size w'' v (d.list (dir++[47]))∧Chg Nil w' w''):=fun w' hw bg hbg=>by
  have h1:=list_known (h.nil hw).a bg
  rw[hbg] at h1;exact h1
 obtain⟨names,hnames⟩:∃ names,d.list (dir++[47])=names:=⟨_,rfl⟩
 have hsh:∀ x∈names,x.length≤40:=fun x hx=>h.a.ok.short x (list_mem.1 (hnames ▸ hx)).1
 have hnd:names.Nodup:=by rw[←hnames];exact list_nodup h.a.ok _
 have hln:names.length≤200:=by rw[←hnames];exact Nat.le_trans (list_len _ _) h.a.ok.few
 rw[hnames] at HLI hC
 have HSH:=Lib.hid hsh
 have HND:=Lib.hid hnd
 have HLN:=Lib.hid hln
 obtain⟨RG,hRG⟩:∃ RG,openGo dir C names d [] false=RG:=⟨_,rfl⟩
 have HRL:Hid (openLg C dir most n d=if RG.1=0 then openMid n RG.2.1 ⟨dir,most,RG.2.2.1,0,0,false⟩ else (RG.1,RG.2.1,⟨dir,most,[],0,0,false⟩)):=by
  unfold Hid openLg;rw[hnames,hRG]
 obtain⟨RL,hRL⟩:∃ RL,openLg C dir most n d=RL:=⟨_,rfl⟩
 rw[hRL] at HRL ⊢
 have HO0:Hid (OpnR C dir most names 0 d ⟨dir,most,[],0,0,false⟩ RG):=⟨rfl,rfl,rfl,rfl,hRG,hC,fun s hs=>by (cases hs)⟩
 have hov:¬maxLen<(ByteArray.mk dir.toArray).size+1:=by
  have e:(ByteArray.mk dir.toArray).size=dir.length:=by show dir.toArray.size=_;simp
  rw[e];unfold maxLen;omega
 clear h hT hTB hn hC hnames hsh hnd hln hRG hRL hm hdir;go_enter Tryz.func65,Tryz.ntmps65
 go_wp2_with fail;have hbx:Box (w.alloc (.cells #[.pointer (some ⟨p,0,none⟩),.string ⟨dir.toArray⟩,.int .i64 most,.slice none 0 0,.int .i64 0,.int .i64 0,.bool false] 140)) w.heap.size [.pointer (some ⟨p,0,none⟩),.string ⟨dir.toArray⟩,.int .i64 most,.slice none 0 0,.int .i64 0,.int .i64 0,.bool false] 140:=Box.new _ _ _
 have hal:Chg Nil w (w.alloc (.cells #[.pointer (some ⟨p,0,none⟩),.string ⟨dir.toArray⟩,.int .i64 most,.slice none 0 0,.int .i64 0,.int .i64 0,.bool false] 140)):=(Chg.refl Nil w).alloc _
 have hsz1:(w.alloc (.cells #[.pointer (some ⟨p,0,none⟩),.string ⟨dir.toArray⟩,.int .i64 most,.slice none 0 0,.int .i64 0,.int .i64 0,.bool false] 140)).heap.size=w.heap.size+1:=by simp
 generalize w.alloc (.cells #[.pointer (some ⟨p,0,none⟩),.string ⟨dir.toArray⟩,.int .i64 most,.slice none 0 0,.int .i64 0,.int .i64 0,.bool false] 140)=w1 at *;obtain⟨l,hl⟩:∃ l,w.heap.size=l:=⟨_,rfl⟩
 have HL:=Lib.hid hl
 have HL1:Hid (w1.heap.size=l+1):=by unfold Hid;omega
 rw[hl] at hbx ⊢
 have HAL:=Lib.hid hal
 have HBX:=Lib.hid hbx
 clear hl hsz1 hal hbx h1 h2 h3 h4 hov;refine (HLI.out w1 HAL.out _ ?hb).mono ?_
 case hb=>first | rfl | simp
 rintro e w2 ⟨nv,rfl,hnv,hc2⟩
 have HC2:Hid (Chg Nil w w2):=HAL.out.trans hc2 (fun _ h=>h.elim)
 have HB2:Hid (∀ k,nv.ownBlock=some k→l+1≤k∧k<w2.heap.size):=fun k hk=>by
  have h9:=hnv.own hk
  have h8:=HL1.out
  omega
 obtain⟨B2,hB2⟩:∃ B2:Nat→Prop,B2=fun k=>B k∨nv.ownBlock=some k:=⟨_,rfl⟩
 have HBB:Hid (∀ k,B k→B2 k):=fun k hk=>by rw[hB2];exact .inl hk
 have HBN:Hid (∀ k,nv.ownBlock=some k→B2 k):=fun k hk=>by rw[hB2];exact .inr hk
 have HLG2:Hid (LgS B2 w2 p l S (.slice none 0 0) [] d ⟨dir,most,[],0,0,false⟩):=by
  have hz:=HC2.out.size
  have hl:=HL.out
  have hds:=HH.out.nil HC2.out
  have hL:∀ k,LHas l (.slice none 0 0) k→k=l:=fun k hk=>hk.elim id (fun e=>by cases e)
  refine⟨fun k hk=>?_,hds.a,HBX.out.chg hc2 (fun h=>h),World.ownsRow_nil _ _ _ _,rfl,fun i hi=>absurd hi (Nat.not_lt_zero _),fun k hk=>⟨fun hb=>?_,fun hk2=>?_,fun ht=>?_,(hds.sl k hk).2⟩,fun k hk=>⟨fun hb=>?_,fun ht=>?_⟩,fun k ht=>?_,fun i j hi=>absurd hi (Nat.not_lt_zero _)⟩
  ·rw[hB2] at hk;rcases hk with hk | hk
   ·exact hds.lo k hk
   ·exact (HB2.out k hk).2
  ·rw[hB2] at hb;rcases hb with hb | hb
   ·exact (hds.sl k hk).1 hb
   ·have:=(HB2.out k hb).1
    have:=(HH.out.sl k hk).2
    omega
  ·have:=hL k hk2
   have:=(HH.out.sl k hk).2
   omega
  ·obtain⟨x,hx,_⟩:=ht
   cases hx
  ·rw[hB2] at hb;have:=hL k hk
   rcases hb with hb | hb
   ·have:=HH.out.lo k hb
    omega
   ·have:=(HB2.out k hb).1
    omega
  ·obtain⟨x,hx,_⟩:=ht
   cases hx
  ·obtain⟨x,hx,_⟩:=ht
   cases hx
 have HT2:Hid (TabE w2):=HT.out.chg HC2.out
 have HTB2:Hid (TabEB B2):=fun m hm k hk=>HBB.out k (HTB.out m hm k hk)
 have HNV:=Lib.hid hnv
 obtain⟨na,nc,hne,hcell⟩:=hnv.vals
 have HCELL:=Lib.hid hcell
 have HNE:=Lib.hid hne
 subst hne;have HC2B:Hid (Chg (Off B) w w2):=HC2.out.weak (fun _ h=>h.elim)
 clear hnv hc2 hB2 hcell HB2 HLI HBX HAL HH HT;have hnlt:(names.length:Int)≤200:=by have:=HLN.out;omega
 go_wp2_with fail;go_loopw [48] (fun iv wr=>∃ (wq:World) (i:Nat) (S':Nat→Prop) (sv:Value) (ss:List (Nat×Value)) (d':Dk) (g:Lg),wq=wr∧iv = .int .i64 (i:Nat)∧Hid (i≤names.length)∧LgS B2 wr p l S' sv ss d' g∧Hid (ss.length≤i)∧Hid (OpnR C dir most names i d' g RG)∧Hid (Chg (Off B2) w2 wr)) (fun iv _=>names.length-(RowKit.intOf iv).toNat)
 case atStart=>exact⟨_,0,S,_,[],d,_,rfl,rfl,Nat.zero_le _,HLG2.out,Nat.le_refl _,HO0.out,Chg.refl _ _⟩
 case round=>
  obtain⟨wr,i,S',sv,ss,d',g,rfl,rfl,HI,hlg,HSS,HOP,HCR⟩:=hrel
  have HLG:=Lib.hid hlg
  clear hlg HLG2 HO0;by_cases hi:i<names.length
  ·have hi2:(i:Int)<(names.length:Int):=by omega
   obtain⟨b,hb,hz⟩:=HCELL.out i hi
   have zx:wr.cell? ⟨b,i,none⟩=some (.string ⟨names[i].toArray⟩):=HCR.out.cell hz (fun ho=>ho (HBN.out b (by rw[hb];rfl)))
   subst hb;obtain⟨x,hx⟩:∃ x,names[i]=x:=⟨_,rfl⟩
   have HX:Hid (∀ h:i<names.length,names[i]=x):=fun _=>hx
   rw[hx] at zx;have hxl:x.length≤40:=HSH.out x (by rw[←hx];exact List.getElem_mem hi)
   have HXL:=Lib.hid hxl
   have HTR:=Lib.hid (HT2.out.offB HTB2.out HCR.out)
   have HBA:=Lib.hid (fun (w':World) (hw:Chg Nil wr w')=>progBase_any (HTR.out.chg hw) ⟨dir.toArray⟩ ⟨x.toArray⟩ (by show dir.toArray.size≤500;have:=HDI.out;simp;omega) (by show x.toArray.size≤900;simp;omega))
   obtain⟨pb,hpb⟩:∃ pb,progBase dir x=pb:=⟨_,rfl⟩
   have e1:progBase (ByteArray.mk dir.toArray).data.toList (ByteArray.mk x.toArray).data.toList=pb:=hpb
   rw[e1] at HBA;have HPB:=Lib.hid hpb
   have HGONE:=Lib.hid (fun (w':World) (hw:Chg Nil wr w')=>lgone_any (HLG.out.nil hw) x (by have:=HXL.out;omega))
   have HGN:=Lib.hid (HOP.out.gone hi HND.out)
   obtain⟨RM,hRM⟩:∃ RM,d'.remove x=RM:=⟨_,rfl⟩
   rw[hx] at HGN;rw[hRM] at HGN HGONE
   have HI2:=Lib.hid hi
   clear hz hi hx hxl e1 hpb hRM;have hi3:¬(names.length:Int)≤(i:Int):=by omega
   have hi4:(i:Int)+1≤200:=by omega
   go_wp2_with fail;refine (HBA.out _ (Chg.refl _ _)).mono ?_
   rintro e w3 ⟨rfl,hc3⟩
   have HC3:=Lib.hid hc3
   clear zx hc3 HBA hi2 hi3;by_cases hneg:pb<0
   ·have HOFF:Hid (offAt dir x g.segs g.down=true):=by unfold Hid offAt;rw[HPB.out,decide_eq_true hneg];rfl
    go_wp2_with fail;refine (HGONE.out w3 HC3.out).mono ?_
    rintro e w4 ⟨rfl,hs4,hc4⟩
    have HS4:=Lib.hid hs4
    have HC4:Hid (Chg (Off B2) wr w4):=(HC3.out.weak (fun _ h=>h.elim)).trans hc4 (fun k hk=>.inl hk)
    clear hs4 hc4 hneg;by_cases hk:RM.1=0
    ·have hev:errD RM.1 = .nilIface:=by rw[hk];rfl
     rw[hev];have HNX:=Lib.hid ((HGN.out HOFF.out).1 hk)
     obtain⟨S4,hs4⟩:=HS4.out
     clear hev hk;go_wp2_with fail;go_roundw
     case rel=>exact⟨_,i+1,S4,sv,ss,RM.2,g,rfl,by simp,HI2.out,hs4,by have:=HSS.out;show _≤_;omega,HNX.out,HCR.out.trans HC4.out (fun k hk=>.inl hk)⟩
     case measure=>have:=HI2.out;simp[RowKit.intOf];omega
    ·have hev:=errD_ne hk
     rw[hev];have HRK:=Lib.hid hk
     have HEND:=Lib.hid ((HGN.out HOFF.out).2 hk)
     clear hev hk;go_wp2_with fail;go_ret2;obtain⟨S4,hs4⟩:=HS4.out
     have hE:RL=(RM.1,RM.2,⟨dir,most,[],0,0,false⟩):=by
      have h9:=HRL.out
      rw[HEND.out,if_neg HRK.out] at h9
      exact h9
     rw[hE];refine⟨(HC2B.out.trans (HCR.out.weak (S':=Off B) fun k hk=>.inl fun hb=>hk (HBB.out k hb)) (fun k hk=>.inl hk)).trans (HC4.out.weak (S':=Off B) fun k hk=>.inl fun hb=>hk (HBB.out k hb)) (fun k hk=>.inl hk),.inr ⟨HRK.out,S4,?_,hs4.dsB HBB.out⟩⟩
     exact (congrArg (fun v=>Ending.returned (.tuple #[.pointer none,v])) (errD_ne HRK.out)).symm
   ·have HNEG:=Lib.hid hneg
    have c3:=HLG.out.c.cell (j:=3) rfl
    have c3':=HC3.out.cell c3 (fun h=>h)
    have c6:=HC3.out.cell (HLG.out.c.cell (j:=6) rfl) (fun h=>h)
    obtain⟨a,cap,hv,hcap,hsc⟩:=HLG.out.o.val
    rw[List.length_map] at hv;have HSCELL:Hid (∀ j (hj:j<ss.length),∃ b,a=some ⟨b,0,none⟩∧w3.cell? ⟨b,j,none⟩=some (.pointer (some ⟨ss[j].1,0,none⟩))):=fun j hj=>by
     obtain⟨b,hb,hz⟩:=hsc j (by rw[List.length_map];exact hj)
     rw[List.getElem_map] at hz;exact⟨b,hb,HC3.out.cell hz (fun h=>h)⟩
    obtain⟨m,hm⟩:∃ m,ss.length=m:=⟨_,rfl⟩
    have HSM:=Lib.hid hm
    have hssl:m≤200:=by have:=HSS.out;have:=HI2.out;have:=HLN.out;omega
    have HSSL:=Lib.hid hssl
    rw[hm] at hv;subst hv;clear hcap hsc c3 hm;go_upto_region 13 with fail;go_cut [88] (fun bv wy=>bv = .bool (offAt dir x g.segs g.down)∧Chg Nil w3 wy)
    case first=>
     have HOFE:Hid (offAt dir x g.segs g.down=(g.down||(decide (0<ss.length)&&decide (pb<lastNext g.segs)))):=by
      unfold Hid offAt;rw[HPB.out,decide_eq_false (Int.not_lt.2 HNEG.out),HLG.out.len,Bool.false_or]
     cases hdn:g.down with
     | true=>
      rw[hdn] at c6;have HOF:Hid (offAt dir x g.segs g.down=true):=by have h9:=HOFE.out;rw[hdn,Bool.true_or] at h9;rw[hdn];exact h9
      clear hdn;have HW7:Hid (Chg Nil w3 w3):=Chg.refl _ _
      go_wp2_with fail;go_meet
      case rel=>exact⟨by rw[HOF.out],HW7.out⟩
     | false=>
      rw[hdn] at c6;by_cases hs0:0<ss.length
      ·have hs0i:(0:Int)<(m:Int):=by have:=HSM.out;omega
       have hlx:lastNext g.segs=g.last.next:=rfl
       have HOF:Hid (offAt dir x g.segs g.down=decide (pb<g.last.next)):=by
        have h9:=HOFE.out
        rw[hdn,decide_eq_true hs0,hlx] at h9
        show offAt dir x g.segs g.down=decide (pb<g.last.next)
        rw[hdn];simpa using h9
       obtain⟨b,rfl,hz⟩:=HSCELL.out (ss.length-1) (by omega)
       have HNX:Hid (∀ w',Chg Nil w3 w'→Calls Tryz.prog 82 #[.pointer (some ⟨(ss[ss.length-1]'(by omega)).1,0,none⟩)] w' fun e w''=>e = .returned (.int .i64 g.last.next)∧Chg Nil w' w''):=fun w' hw=>by
        have hlg':=HLG.out.nil (HC3.out.trans hw (fun _ h=>h.elim))
        have hls:=hlg'.t.lastSeg hs0
        have e1:g.segs[ss.length-1]'(by have:=hlg'.len;omega)=g.last:=by rw[hls];congr 1;rw[hlg'.len]
        have h9:=snext_any (hlg'.m (ss.length-1) (by omega)) (by rw[e1,hls];have:=(HOP.out.pls _ (List.getElem_mem (l:=g.segs) (n:=g.segs.length-1) (by have:=hlg'.len;omega))).1;omega)
        rw[e1] at h9;exact h9
       obtain⟨q,hq⟩:∃ q,(ss[ss.length-1]'(by omega)).1=q:=⟨_,rfl⟩
       rw[hq] at hz HNX
       obtain⟨nx,hnx⟩:∃ nx,g.last.next=nx:=⟨_,rfl⟩
       rw[hnx] at HNX HOF
       rw[HSM.out] at hz;have hk0:(1:Int)≤(m:Int):=by omega
       have hk1:(m:Int)-1<(m:Int):=by omega
       clear hdn hq hnx hlx hs0;go_wp2_with fail;refine (HNX.out w3 (Chg.refl _ _)).mono ?_
       rintro e w7 ⟨rfl,hc7⟩
       have HW7:=Lib.hid hc7
       clear hc7;go_wp2_with fail;go_meet
       case rel=>exact⟨by rw[HOF.out],HW7.out⟩
      ·have hs0i:¬(0:Int)<(m:Int):=by have:=HSM.out;omega
       have HOF:Hid (offAt dir x g.segs g.down=false):=by
        have h9:=HOFE.out
        rw[hdn,decide_eq_false hs0] at h9
        rw[hdn];exact h9
       clear hdn hs0;have HW7:Hid (Chg Nil w3 w3):=Chg.refl _ _
       go_wp2_with fail;go_meet
       case rel=>exact⟨by rw[HOF.out],HW7.out⟩
    obtain⟨rfl,hcw⟩:=hcut
    have HC4:Hid (Chg Nil wr wc):=HC3.out.trans hcw (fun _ h=>h.elim)
    clear hcw c3' c6 HC3 HSCELL;cases hof:offAt dir x g.segs g.down with
    | true=>
     have HOFF:=Lib.hid hof
     clear hof hneg;go_wp2_with fail;refine (HGONE.out wc HC4.out).mono ?_
     rintro e w5 ⟨rfl,hs5,hc5⟩
     have HS5:=Lib.hid hs5
     have HC5:Hid (Chg (Off B2) wr w5):=(HC4.out.weak (fun _ h=>h.elim)).trans hc5 (fun k hk=>.inl hk)
     clear hs5 hc5;by_cases hk:RM.1=0
     ·have hev:errD RM.1 = .nilIface:=by rw[hk];rfl
      rw[hev];have HNX:=Lib.hid ((HGN.out HOFF.out).1 hk)
      obtain⟨S4,hs4⟩:=HS5.out
      clear hev hk;go_wp2_with fail;go_roundw
      case rel=>exact⟨_,i+1,S4,_,ss,RM.2,g,rfl,by simp,HI2.out,hs4,by have:=HSS.out;show _≤_;omega,HNX.out,HCR.out.trans HC5.out (fun k hk=>.inl hk)⟩
      case measure=>have:=HI2.out;simp[RowKit.intOf];omega
     ·have hev:=errD_ne hk
      rw[hev];have HRK:=Lib.hid hk
      have HEND:=Lib.hid ((HGN.out HOFF.out).2 hk)
      clear hev hk;go_wp2_with fail;go_ret2;obtain⟨S4,hs4⟩:=HS5.out
      have hE:RL=(RM.1,RM.2,⟨dir,most,[],0,0,false⟩):=by
       have h9:=HRL.out
       rw[HEND.out,if_neg HRK.out] at h9
       exact h9
      rw[hE];refine⟨(HC2B.out.trans (HCR.out.weak (S':=Off B) fun k hk=>.inl fun hb=>hk (HBB.out k hb)) (fun k hk=>.inl hk)).trans (HC5.out.weak (S':=Off B) fun k hk=>.inl fun hb=>hk (HBB.out k hb)) (fun k hk=>.inl hk),.inr ⟨HRK.out,S4,?_,hs4.dsB HBB.out⟩⟩
      exact (congrArg (fun v=>Ending.returned (.tuple #[.pointer none,v])) (errD_ne HRK.out)).symm
    | false=>
     obtain⟨nb,hnb⟩:∃ nb:Nat,pb=nb:=⟨pb.toNat,by omega⟩
     subst hnb;obtain⟨c,hc⟩:∃ c,C nb=c:=⟨_,rfl⟩
     obtain⟨o1,o2,o3,o4⟩:=HOP.out.opened HI2.out HND.out HLG.out.a.ok (by rw[HX.out HI2.out];exact hof) (n:=nb) (by rw[HX.out HI2.out];exact HPB.out) hc
     have HO:=Lib.hid (fun (w':World) (hw:Chg Nil wr w')=>lsopen_any (HLG.out.nil hw) (HTR.out.chg hw).tabs dir HDI.out nb c o1)
     obtain⟨RO,hRO⟩:∃ RO,openR d' (segName dir nb) c.1 c.2=RO:=⟨_,rfl⟩
     rw[hRO] at HO o3 o4
     have HO3:=Lib.hid o3
     have HO4:=Lib.hid o4
     clear hof o1 o2 o3 o4 hRO hc hneg HGN HGONE HNEG;go_wp2_with fail;refine (HO.out wc HC4.out).mono ?_
     rintro e w5 ⟨hcase,hc5⟩
     have HC5:Hid (Chg (Off B2) wr w5):=(HC4.out.weak (fun _ h=>h.elim)).trans hc5 (fun k hk=>.inl hk)
     clear hc5;rcases hcase with ⟨hk,s,v,S5,rfl,hs5,hsg5⟩ | ⟨hk,S5,rfl,hs5⟩
     ·have HS5:=Lib.hid hs5
      have HSG5:=Lib.hid hsg5
      have HNX:=Lib.hid (HO3.out hk)
      have HOW:Hid (OwnT (w5.alloc (.cells #[.pointer (some ⟨s,0,none⟩)] 145)) (.slice a m cap) (ss.map (·.1))):=ownsRow_chg HS5.out.o ((Chg.refl Nil w5).alloc _) (fun _ _ h=>h)
      have HBR:=Lib.hid (Box.new w5 [.pointer (some ⟨s,0,none⟩)] 145)
      have c3:=HS5.out.c.cell (j:=3) rfl
      obtain⟨jl,hjl⟩:∃ jl,c.2.length=jl:=⟨_,rfl⟩
      rw[hjl] at HNX ⊢
      clear hs5 hsg5 hk hjl HO3 HO4;go_upto_region 21 with (at_builtin;go_must (refine wpList_append_grew rfl (.tmp 110) (.tmp 112) 138 138 rfl segT _ Tryz.underlying138 (by intro _;simp) (.slice a m cap) m ((ss.map (·.1)).map fun s=>Value.pointer (some ⟨s,0,none⟩)) rfl (by have h9:=HOW.out;unfold OwnT at h9;rw[List.length_map,HSM.out] at h9;exact h9) _ 1 [.pointer (some ⟨s,0,none⟩)] rfl (Source.box HBR.out rfl (by intro u hu;rw[List.mem_singleton.1 hu];rfl)) (by have:=HSSL.out;unfold maxLen;omega) (by have:=HSSL.out;omega) ?_);intro v2 w7 hown2 hg2 _;have HOW2:=Lib.hid hown2;have HG2:=Lib.hid hg2;obtain⟨x2,n2,c2,rfl⟩:=ownsRow_form hown2;have hbx7:=Lib.hid ((HS5.out.c.chg ((Chg.refl Nil w5).alloc (.cells #[.pointer (some ⟨s,0,none⟩)] 145)) (fun h=>h)).chg hg2.chg (fun h=>(box_row_ne' HS5.out.c HS5.out.o (by decide)) h));have f3:=hbx7.out.free 3;have d3:=hbx7.out.cell (j:=3) rfl;clear hown2 hg2 c3)
      have hset:Chg (fun k=>k=l) w7 (w7.setCell ⟨l,3,none⟩ (.slice x2 n2 c2)):=(Chg.refl (fun k=>k=l) _).setCell (.inl rfl) _
      have ho:OwnT w7 (.slice x2 n2 c2) (ss.map (·.1)++[s]):=by
       unfold OwnT;rw[List.length_append,List.length_map,List.length_singleton,List.map_append,List.map_singleton,HSM.out];exact HOW2.out
      have hC1:Chg (fun k=>(Value.slice a m cap).ownBlock=some k) w5 w7:=(((Chg.refl Nil w5).alloc _).weak (fun _ h=>h.elim)).trans HG2.out.chg (fun k hk=>.inl hk)
      have hlg8:=HS5.out.moreV HSG5.out ho hC1 (fun k hk=>(HG2.out.own k hk).imp id (fun h=>by rw[World.size_alloc] at h;omega)) hset (hbx7.out.set 3 _)
      have HLG8:=Lib.hid hlg8
      have HC8:Hid (Chg (Off B2) wr (w7.setCell ⟨l,3,none⟩ (.slice x2 n2 c2))):=(HC5.out.trans (hC1.weak (S':=Off B2) (fun k hk=>.inl (HS5.out.lb k (.inr hk)).1)) (fun k hk=>.inl hk)).trans (hset.weak (S':=Off B2) (fun k hk=>.inl (fun hb=>(HS5.out.lb l (.inl rfl)).1 (hk ▸ hb)))) (fun k hk=>.inl hk)
      clear f3 d3 hset ho hC1 hlg8 hbx7 HOW HBR;generalize w7.setCell ⟨l,3,none⟩ (.slice x2 n2 c2)=w8 at *
      have c6:=HLG8.out.c.cell (j:=6) rfl
      have f6:=HLG8.out.c.free 6
      go_wp2_with fail;have hset:Chg (fun k=>k=l) w8 (w8.setCell ⟨l,6,none⟩ (.bool (decide (0<jl)))):=(Chg.refl (fun k=>k=l) _).setCell (.inl rfl) _
      have hlg9:LgS B2 (w8.setCell ⟨l,6,none⟩ (.bool (decide (0<jl)))) p l S5 (.slice x2 n2 c2) (ss++[(s,v)]) RO.2 { g with segs:=g.segs++[sgMk (segName dir nb) nb c.1],down:=decide (0<jl) }:=HLG8.out.cells hset (HLG8.out.c.set 6 _) rfl
      have HC9:Hid (Chg (Off B2) wr (w8.setCell ⟨l,6,none⟩ (.bool (decide (0<jl))))):=HC8.out.trans (HLG8.out.offL hset) (fun k hk=>.inl hk)
      have HNX2:Hid (OpnR C dir most names (i+1) RO.2 { g with segs:=g.segs++[sgMk (segName dir nb) nb c.1],down:=decide (0<jl) } RG):=HNX.out
      go_roundw
      case rel=>exact⟨_,i+1,S5,_,ss++[(s,v)],RO.2,_,rfl,by simp,HI2.out,hlg9,by have:=HSS.out;show _≤_;rw[List.length_append,List.length_singleton];omega,HNX2.out,HCR.out.trans HC9.out (fun k hk=>.inl hk)⟩
      case measure=>have:=HI2.out;simp[RowKit.intOf];omega
     ·have hev:=errD_ne hk
      rw[hev];have HRK:=Lib.hid hk
      have HS5:=Lib.hid hs5
      have HEND:=Lib.hid (HO4.out hk)
      clear hev hk hs5;go_wp2_with fail;go_ret2;have hE:RL=(RO.1,RO.2,⟨dir,most,[],0,0,false⟩):=by
       have h9:=HRL.out
       rw[HEND.out,if_neg HRK.out] at h9
       exact h9
      rw[hE];refine⟨(HC2B.out.trans (HCR.out.weak (S':=Off B) fun k hk=>.inl fun hb=>hk (HBB.out k hb)) (fun k hk=>.inl hk)).trans (HC5.out.weak (S':=Off B) fun k hk=>.inl fun hb=>hk (HBB.out k hb)) (fun k hk=>.inl hk),.inr ⟨HRK.out,S5,?_,HS5.out.dsB HBB.out⟩⟩
      exact (congrArg (fun v=>Ending.returned (.tuple #[.pointer none,v])) (errD_ne HRK.out)).symm
  ·have hi2:¬(i:Int)<(names.length:Int):=by omega
   obtain rfl:i=names.length:=by have:=HI.out;omega
   clear hi hi2;have c6:=HLG.out.c.cell (j:=6) rfl
   have f6:=HLG.out.c.free 6
   have HOE:Hid (RG=(0,d',g.segs,g.down)):=by
    have h9:=HOP.out.go
    rw[List.drop_length,openGo] at h9;exact h9.symm
   have HE1:Hid (RL=openMid n d' ⟨dir,most,g.segs,0,0,false⟩):=by
    have h9:=HRL.out
    rw[HOE.out,if_pos rfl] at h9
    exact h9
   have hg0:({ g with down:=false }:Lg)=⟨dir,most,g.segs,0,0,false⟩:=by
    have h9:=HOP.out.hdir
    have h8:=HOP.out.hmost
    have h7:=HOP.out.start
    have h6:=HOP.out.safe
    cases g
    simp only at h9 h8 h7 h6
    rw[h9,h8,h7,h6]
   have HPL:=Lib.hid HOP.out.pls
   have HSS2:Hid (ss.length≤200):=by have:=HSS.out;have:=HLN.out;unfold Hid;omega
   have HTR:=Lib.hid (HT2.out.offB HTB2.out HCR.out)
   have hset:Chg (fun k=>k=l) wr (wr.setCell ⟨l,6,none⟩ (.bool false)):=(Chg.refl (fun k=>k=l) _).setCell (.inl rfl) _
   have hlg4:LgS B2 (wr.setCell ⟨l,6,none⟩ (.bool false)) p l S' sv ss d' { g with down:=false }:=HLG.out.cells hset (HLG.out.c.set 6 _) rfl
   rw[hg0] at hlg4;have HLG4:=Lib.hid hlg4
   have HC4:Hid (Chg (Off B2) w2 (wr.setCell ⟨l,6,none⟩ (.bool false))):=HCR.out.trans (HLG.out.offL hset) (fun k hk=>.inl hk)
   have HTR4:Hid (TabE (wr.setCell ⟨l,6,none⟩ (.bool false))):=HTR.out.offB HTB2.out (HLG.out.offL hset)
   clear hset hlg4 hg0 HOE HRL HSS HI;go_upto_region 24 with fail;clear c6 f6 HLG HCR HTR HOP;generalize wr.setCell ⟨l,6,none⟩ (.bool false)=w4 at *
   obtain⟨sgl,hsgl⟩:∃ sgl,g.segs=sgl:=⟨_,rfl⟩
   rw[hsgl] at HE1 HPL HLG4
   obtain⟨a,cap,hv,_,_⟩:=HLG4.out.o.val
   rw[List.length_map] at hv;obtain⟨m,hm⟩:∃ m,ss.length=m:=⟨_,rfl⟩
   have HM:=Lib.hid hm
   rw[hm] at hv HSS2
   subst hv;have hm2:m≤200:=HSS2.out
   have c3:=HLG4.out.c.cell (j:=3) rfl
   clear hsgl hm;go_upto_if 130 with fail
   go_cut [130] (fun bv wy=>∃ (S1:Nat→Prop) (sv1:Value) (ss1:List (Nat×Value)) (d1:Dk) (g1:Lg),LgS B2 wy p l S1 sv1 ss1 d1 g1∧0<ss1.length∧Hid (ss1.length≤201)∧Hid (∀ s∈g1.segs,s.pls.length≤100000∧s.name.length≤1000)∧Hid (RL=openEnd n d1 g1)∧Chg (Off B2) w4 wy)
   case first=>
    by_cases hm0:m=0
    ·have hz:((m:Int)==0)=true:=by rw[hm0];rfl
     have hsn:ss=[]:=List.eq_nil_of_length_eq_zero (by rw[HM.out];exact hm0)
     have hgn:sgl=[]:=List.eq_nil_of_length_eq_zero (by have h9:=HLG4.out.len;rw[hsn] at h9;exact h9.symm)
     subst hsn hgn;have HMK:=Lib.hid (lmake_any HLG4.out HTR4.out.tabs HTB2.out.tabs HDI.out n HN.out)
     have hnm:(segName dir n).length≤1000:=segName_len ⟨dir.toArray⟩ n (by show dir.toArray.size≤100;have:=HDI.out;simp;omega) HN.out
     have HNM:=Lib.hid hnm
     have HE2:Hid (RL=if (d'.make (segName dir n)).1=0 then openEnd n (d'.make (segName dir n)).2 ⟨dir,most,[⟨segName dir n,n,[],0⟩],0,0,false⟩ else ((d'.make (segName dir n)).1,(d'.make (segName dir n)).2,⟨dir,most,[],0,0,false⟩)):=by
      have h9:=HE1.out
      unfold openMid at h9;rw[if_pos rfl] at h9
      simp only[Int.toNat_natCast] at h9
      exact h9
     obtain⟨MK,hMK⟩:∃ MK,d'.make (segName dir n)=MK:=⟨_,rfl⟩
     simp only[hMK] at HMK
     rw[hMK] at HE2;rw[hz];clear hz hm0 hnm hMK c3 hm2;go_wp2_with fail;refine HMK.out.mono ?_
     rintro e w5 ⟨hcase,hc5⟩
     have HC5:Hid (Chg (Off B2) w4 w5):=hc5.weak fun k hk=>.inl (HLG4.out.sl k hk).1
     clear hc5;rcases hcase with ⟨hk,s,S5,rfl,hs5,hsg5⟩ | ⟨hk,S5,rfl,hs5⟩
     ·have HS5:=Lib.hid hs5
      have HSG5:=Lib.hid hsg5
      have HE3:Hid (RL=openEnd n MK.2 ⟨dir,most,[⟨segName dir n,n,[],0⟩],0,0,false⟩):=by
       have h9:=HE2.out
       rw[if_pos hk] at h9
       exact h9
      have hal:Chg Nil w5 (w5.alloc (.cells #[.pointer (some ⟨s,0,none⟩)] 145)):=(Chg.refl Nil w5).alloc _
      have hb6:=HS5.out.c.chg hal (fun h=>h)
      have hrow:=Box.new w5 [.pointer (some ⟨s,0,none⟩)] 145
      have c3:=hb6.cell (j:=3) rfl
      have f3:=hb6.free 3
      have HB6:=Lib.hid hb6
      have HROW:=Lib.hid hrow
      have HAL:=Lib.hid hal
      clear hk hs5 hsg5 hal hb6 hrow HE2 HE1;go_wp2_with fail;have hset:Chg (fun k=>k=l) (w5.alloc (.cells #[.pointer (some ⟨s,0,none⟩)] 145)) ((w5.alloc (.cells #[.pointer (some ⟨s,0,none⟩)] 145)).setCell ⟨l,3,none⟩ (.slice (some ⟨w5.heap.size,0,none⟩) 1 1)):=(Chg.refl (fun k=>k=l) _).setCell (.inl rfl) _
      have ho:OwnT (w5.alloc (.cells #[.pointer (some ⟨s,0,none⟩)] 145)) (.slice (some ⟨w5.heap.size,0,none⟩) 1 1) (([]:List (Nat×Value)).map (·.1)++[s]):=OwnT.one HROW.out
      have hfin:=HS5.out.moreV HSG5.out ho (HAL.out.weak (fun _ h=>h.elim)) (fun k hk=>.inr (by obtain rfl:=Option.some.inj hk;exact Nat.le_refl _)) hset (HB6.out.set 3 _)
      have hcf:=(HC5.out.trans (HAL.out.weak (S':=Off B2) (fun _ h=>h.elim)) (fun k hk=>.inl hk)).trans (hset.weak (S':=Off B2) (fun k hk=>.inl (fun hb=>(HS5.out.lb l (.inl rfl)).1 (hk ▸ hb)))) (fun k hk=>.inl hk)
      go_meet
      case rel=>exact⟨S5,_,_,MK.2,_,hfin,by simp,by unfold Hid;simp,fun s hs=>by (have hs:=List.mem_singleton.1 hs;rw[hs];exact⟨Nat.zero_le _,HNM.out⟩),HE3.out,hcf⟩
     ·have hev:=errD_ne hk
      rw[hev];have HRK:=Lib.hid hk
      have HS5:=Lib.hid hs5
      have HE3:Hid (RL=(MK.1,MK.2,⟨dir,most,[],0,0,false⟩)):=by
       have h9:=HE2.out
       rw[if_neg hk] at h9
       exact h9
      clear hev hk hs5;go_wp2_with fail;go_ret2;rw[HE3.out];refine⟨(HC2B.out.trans (HC4.out.weak (S':=Off B) fun k hk=>.inl fun hb=>hk (HBB.out k hb)) (fun k hk=>.inl hk)).trans (HC5.out.weak (S':=Off B) fun k hk=>.inl fun hb=>hk (HBB.out k hb)) (fun k hk=>.inl hk),.inr ⟨HRK.out,S5,?_,HS5.out.dsB HBB.out⟩⟩
      exact (congrArg (fun v=>Ending.returned (.tuple #[.pointer none,v])) (errD_ne HRK.out)).symm
    ·have hz:((m:Int)==0)=false:=beq_eq_false_iff_ne.2 (by omega)
     have HE3:Hid (RL=openEnd n d' ⟨dir,most,sgl,0,0,false⟩):=by
      have h9:=HE1.out
      unfold openMid at h9;rw[if_neg (fun h8=>hm0 (by have h7:=HLG4.out.len;have h8:sgl=[]:=h8;rw[HM.out] at h7;rw[h7,h8];rfl))] at h9
      exact h9
     have HM0:Hid (0<ss.length):=by rw[HM.out];unfold Hid;omega
     rw[hz];clear hz hm0 c3 hm2 HE1;go_wp2_with fail;go_meet
     case rel=>exact⟨S',_,ss,d',_,HLG4.out,HM0.out,by rw[HM.out];exact Nat.le_succ_of_le HSS2.out,HPL.out,HE3.out,Chg.refl _ _⟩
   obtain⟨S1,sv1,ss1,d1,g1,hlg1,hne1,HF1,HP1,HE4,hcc⟩:=hcut
   have HLG1:=Lib.hid hlg1
   have HNE1:=Lib.hid hne1
   have HC5:Hid (Chg (Off B2) w2 wc):=HC4.out.trans hcc (fun k hk=>.inl hk)
   have HGL:Hid (g1.last.pls.length≤100000∧g1.last.name.length≤1000):=by
    have hls:=hlg1.t.lastSeg hne1
    rw[hls];exact HP1.out _ (List.getElem_mem _)
   have HLA:=Lib.hid (llast_any hlg1.t hne1 (by have:=HF1.out;omega))
   have HSY:=Lib.hid (fun (w':World) (hw:Chg Nil wc w')=>llsync_any (hlg1.nil hw) hne1 HGL.out.2)
   obtain⟨q,hq⟩:∃ q,(ss1[ss1.length-1]'(by omega)).1=q:=⟨_,rfl⟩
   rw[hq] at HLA HSY
   obtain⟨RS,hRS⟩:∃ RS,d1.sync g1.last.name=RS:=⟨_,rfl⟩
   rw[hRS] at HSY;have HE5:Hid (RL=if RS.1=0 then (0,RS.2,{ g1 with safe:=g1.stop,start:=min (max (n:Int) ((g1.segs[0]?).getD sg0).base) g1.stop }) else (RS.1,RS.2,g1)):=by
    have h9:=HE4.out
    unfold openEnd at h9;rw[hRS] at h9;exact h9
   clear hlg1 hne1 hcc hq hRS c3 hm2 HE4 HC4 HLG4 HPL HE1 HTR4;go_wp2_with fail;refine HLA.out.mono ?_
   rintro e w5 ⟨rfl,hc5⟩
   have HC5':=Lib.hid hc5
   clear hc5;go_wp2_with fail;refine (HSY.out w5 HC5'.out).mono ?_
   rintro e w6 ⟨rfl,hs6,hc6⟩
   have HS6:=Lib.hid hs6
   have HC6:Hid (Chg (Off B2) w2 w6):=(HC5.out.trans (HC5'.out.weak (S':=Off B2) (fun _ h=>h.elim)) (fun k hk=>.inl hk)).trans hc6 (fun k hk=>.inl hk)
   clear hs6 hc6 HLA HSY;by_cases hk:RS.1=0
   ·have hev:errD RS.1 = .nilIface:=by rw[hk];rfl
    rw[hev];have HE6:Hid (RL=(0,RS.2,{ g1 with safe:=g1.stop,start:=min (max (n:Int) ((g1.segs[0]?).getD sg0).base) g1.stop })):=by
     have h9:=HE5.out
     rw[if_pos hk] at h9
     exact h9
    obtain⟨S6,hs6⟩:=HS6.out
    have HLG6:=Lib.hid hs6
    have HEN:=Lib.hid (fun (w':World) (g':Lg) (hg:g'.segs=g1.segs) (h:LgS B2 w' p l S6 sv1 ss1 RS.2 g')=>(show Calls Tryz.prog 22 #[.pointer (some ⟨l,0,none⟩)] w' fun e w''=>e = .returned (.int .i64 g1.stop)∧Chg Nil w' w'' from by
     have h1:=lend_any h.t HNE1.out (by have:=HF1.out;omega) (by rw[(stop_keeps hg).1];have:=HGL.out.1;omega)
     rw[(stop_keeps hg).2] at h1
     exact h1))
    clear hev hk HS6 HE5 hs6;obtain⟨st,hst⟩:∃ st,g1.stop=st:=⟨_,rfl⟩
    rw[hst] at HE6;simp only[hst] at HEN
    clear hst;go_wp2_with fail;refine (HEN.out w6 g1 rfl HLG6.out).mono ?_
    rintro e w9 ⟨rfl,hc9⟩
    have HLG9:=Lib.hid (HLG6.out.nil hc9)
    have HC9:Hid (Chg (Off B2) w2 w9):=HC6.out.trans hc9 (fun _ h=>h.elim)
    clear hc9;have c5:=HLG9.out.c.cell (j:=5) rfl
    have f5:=HLG9.out.c.free 5
    go_upto_region 33 with fail;have hset:Chg (fun k=>k=l) w9 (w9.setCell ⟨l,5,none⟩ (.int .i64 st)):=(Chg.refl (fun k=>k=l) _).setCell (.inl rfl) _
    have hlg10:LgS B2 (w9.setCell ⟨l,5,none⟩ (.int .i64 st)) p l S6 sv1 ss1 RS.2 { g1 with safe:=st }:=HLG9.out.cells hset (HLG9.out.c.set 5 _) rfl
    have HLG10:=Lib.hid hlg10
    have HC10:Hid (Chg (Off B2) w2 (w9.setCell ⟨l,5,none⟩ (.int .i64 st))):=HC9.out.trans (HLG9.out.offL hset) (fun k hk=>.inl hk)
    clear hset hlg10 c5 f5;generalize w9.setCell ⟨l,5,none⟩ (.int .i64 st)=w10 at *
    have c3:=HLG10.out.c.cell (j:=3) rfl
    obtain⟨a1,cap1,hv,_,hcell⟩:=HLG10.out.o.val
    obtain⟨b,hb,z0⟩:=hcell 0 (by rw[List.length_map];exact HNE1.out)
    rw[List.getElem_map] at z0;rw[List.length_map] at hv;subst hb;have HBA:Hid (Calls Tryz.prog 98 #[.pointer (some ⟨(ss1[0]'HNE1.out).1,0,none⟩)] w10 fun e w'=>e = .returned (.int .i64 ((g1.segs[0]?).getD sg0).base)∧w'=w10):=by
     have h1:=HLG10.out.m 0 HNE1.out
     have h2:=sbase_any h1
     have e1:(g1.segs[0]?).getD sg0=g1.segs[0]'(by have h9:=HLG10.out.len;have h9:ss1.length=g1.segs.length:=h9;have:=HNE1.out;omega):=by
      rw[List.getElem?_eq_getElem (by have h9:=HLG10.out.len;have h9:ss1.length=g1.segs.length:=h9;have:=HNE1.out;omega)]
      rfl
     rw[e1];exact h2
    obtain⟨q0,hq0⟩:∃ q0,(ss1[0]'HNE1.out).1=q0:=⟨_,rfl⟩
    rw[hq0] at z0 HBA
    obtain⟨b0,hb0⟩:∃ b0,((g1.segs[0]?).getD sg0).base=b0:=⟨_,rfl⟩
    rw[hb0] at HBA HE6
    obtain⟨m1,hm1⟩:∃ m1,ss1.length=m1:=⟨_,rfl⟩
    have hm1p:(0:Int)<(m1:Int):=by have:=HNE1.out;omega
    rw[hm1] at hv;rw[hv] at c3;have HSV:=Lib.hid hv
    clear hcell hq0 hb0 hm1 hv;go_wp2_with fail;refine HBA.out.mono ?_
    rintro e w11 ⟨rfl,hw⟩
    obtain rfl:=hw.symm
    clear c3 z0 hm1p;go_wp2_with fail;refine (HEN.out _ { g1 with safe:=st } rfl HLG10.out).mono ?_
    rintro e w12 ⟨rfl,hc12⟩
    have HLG12:=Lib.hid (HLG10.out.nil hc12)
    have HC12:Hid (Chg (Off B2) w2 w12):=HC10.out.trans hc12 (fun _ h=>h.elim)
    clear hc12;have c4:=HLG12.out.c.cell (j:=4) rfl
    have f4:=HLG12.out.c.free 4
    go_wp2_with fail;go_ret2;have hset:Chg (fun k=>k=l) w12 (w12.setCell ⟨l,4,none⟩ (.int .i64 (min (max (n:Int) b0) st))):=(Chg.refl (fun k=>k=l) _).setCell (.inl rfl) _
    have hlg13:LgS B2 (w12.setCell ⟨l,4,none⟩ (.int .i64 (min (max (n:Int) b0) st))) p l S6 sv1 ss1 RS.2 { g1 with safe:=st,start:=min (max (n:Int) b0) st }:=HLG12.out.cells hset (HLG12.out.c.set 4 _) rfl
    have hcz:=HC12.out.trans (HLG12.out.offL hset) (fun k hk=>.inl hk)
    rw[HE6.out];exact⟨HC2B.out.trans (hcz.weak (S':=Off B) fun k hk=>.inl fun hb=>hk (HBB.out k hb)) (fun k hk=>.inl hk),.inl ⟨rfl,l,S6,sv1,ss1,rfl,by have:=HL.out;omega,hlg13.less HBB.out⟩⟩
   ·have hev:=errD_ne hk
    rw[hev];have HRK:=Lib.hid hk
    have HE6:Hid (RL=(RS.1,RS.2,g1)):=by
     have h9:=HE5.out
     rw[if_neg hk] at h9
     exact h9
    clear hev hk;go_wp2_with fail;go_ret2;obtain⟨S6,hs6⟩:=HS6.out
    rw[HE6.out];refine⟨HC2B.out.trans (HC6.out.weak (S':=Off B) fun k hk=>.inl fun hb=>hk (HBB.out k hb)) (fun k hk=>.inl hk),.inr ⟨HRK.out,S6,?_,hs6.dsB HBB.out⟩⟩
    exact (congrArg (fun v=>Ending.returned (.tuple #[.pointer none,v])) (errD_ne HRK.out)).symm
end Go.Proofs.YtobegmcbfgnpnaaGreatDoor
