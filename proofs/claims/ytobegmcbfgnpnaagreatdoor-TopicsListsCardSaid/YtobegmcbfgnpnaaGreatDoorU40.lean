/-
  A log is opened, whatever the disk has of it: the parts. (Of the logs' seat.)
-/
import Derived.Test.YtobegmcbfgnpnaaGreatDoorU39
set_option linter.unusedVariables false
set_option linter.unusedSimpArgs false
set_option maxHeartbeats 0
set_option maxRecDepth 200000
namespace Go.Proofs.YtobegmcbfgnpnaaGreatDoor
open Go.RowKit Go.Maps
theorem prog_name {d nm:List UInt8}(h:¬progBase d nm<0):segName d (progBase d nm).toNat=nm∧(progBase d nm).toNat≤1099511627776:=by
 by_cases hx:∃ n:Nat,n≤1099511627776∧segName d n=nm
 ·obtain⟨n,hn,rfl⟩:=hx
  rw[prog_hit d hn,Int.toNat_natCast]
  exact⟨rfl,hn⟩
 ·rw[prog_miss (fun n hn e=>hx ⟨n,hn,e⟩)] at h
  omega
def TabF (n:String):Prop:=TabN n∨n = "strconv.ErrSyntax"∨n = "strconv.ErrRange"
def TabEB (B:Nat→Prop):Prop:=∀ n,TabF n→∀ g,Tryz.prog.globalNamed n=some g→B g
theorem TabEB.tabs {B:Nat→Prop}(h:TabEB B):TabB B:=fun n hn g hg=>h n (.inl hn) g hg
theorem TabE.off {S:Nat→Prop}{w w':World}(h:TabE w) (k:Chg S w w')(hn:∀ n,TabF n→∀ g,Tryz.prog.globalNamed n=some g→¬S g):TabE w':=by
 obtain⟨h1,⟨tp,p,h2⟩,⟨tp',p',h3⟩⟩:=h
 exact⟨h1.off k (fun n hm=>hn n (.inl hm)),⟨tp,p,var_off k (hn _ (.inr (.inl rfl))) h2⟩,⟨tp',p',var_off k (hn _ (.inr (.inr rfl))) h3⟩⟩
theorem TabE.offB {B:Nat→Prop}{w w':World}(h:TabE w)(hB:TabEB B) (k:Chg (Off B) w w'):TabE w':=h.off k fun n hn g hg ho=>ho (hB n hn g hg)
theorem TabE.lt {w:World}(h:TabE w):TabEB (fun k=>k<w.heap.size):=by
 rintro n (rfl | rfl | rfl) g hg
 ·exact var_lt h.tabs.pow hg
 ·obtain⟨_,_,h2⟩:=h.syn
  exact var_lt h2 hg
 ·obtain⟨_,_,h2⟩:=h.rng
  exact var_lt h2 hg
theorem OwnS.own {B:Nat}{w:World}{v:Value}{l:List Nm}(h:OwnS B w v l) {k:Nat}(hk:v.ownBlock=some k):B≤k∧k<w.heap.size:=by
 rcases h.2 with ⟨rfl,_⟩ | ⟨g,cap,cur,rfl,hb,hg,_⟩
 ·cases hk
 ·obtain rfl:g=k:=Option.some.inj hk
  exact⟨hb,(Array.getElem?_eq_some_iff.1 hg).1⟩
theorem OwnS.vals {B:Nat}{w:World}{v:Value}{l:List Nm}(h:OwnS B w v l):∃ a cap,v = .slice a l.length cap∧∀ i (h:i<l.length),∃ g,a=some ⟨g,0,none⟩∧w.cell? ⟨g,i,none⟩=some (.string ⟨l[i].toArray⟩):=by
 rcases h.2 with ⟨rfl,hn⟩ | ⟨g,cap,cur,rfl,_,_,hle,_⟩
 ·exact⟨none,0,by rw[hn],fun i hi=>absurd hi (by omega)⟩
 ·have e1:∀ j,(⟨g,0,none⟩:Addr).add j=⟨g,j,none⟩:=fun j=>by unfold Addr.add;split<;>simp_all
  refine⟨some ⟨g,0,none⟩,cap,rfl,fun i hi=>⟨g,rfl,?_⟩⟩
  have:=World.ownsRow.cells h (g:=g) rfl i (.string ⟨l[i].toArray⟩) (by rw[List.getElem?_map,List.getElem?_eq_getElem hi];rfl)
  rwa [e1] at this
theorem list_known {w:World}{p:Nat}{S:Nat→Prop}{d:Dk}(h:DiskAt w p S d) (bg:ByteArray) :
  Calls Tryz.prog 28 #[.pointer (some ⟨p,0,none⟩),.string bg] w fun e w'=>∃ v,e = .returned v∧OwnS w.heap.size w' v (d.list bg.data.toList)∧Chg Nil w w':=by
 obtain⟨mb,fs,sv,con,hd,hfs,hS,hok⟩:=h
 have hnm:d.names=fs.map (·.1):=by
  unfold Dk.names;rw[hfs,List.map_map];rfl
 have hfn:fs.length≤200:=by
  have:=hok.few
  rw[hfs,List.length_map] at this;exact this
 have h1:=list_any hd hfn bg
 rw[←hnm] at h1;exact h1
theorem list_mem {d:Dk}{b x:Nm}:x∈d.list b↔x∈d.names∧b.isPrefixOf x=true:=by
 unfold Dk.list sortN;rw[(List.mergeSort_perm _ _).mem_iff,List.mem_filter]
theorem list_len (d:Dk) (b:Nm):(d.list b).length≤d.fs.length:=by
 unfold Dk.list;rw[sortN_len];refine Nat.le_trans (List.length_filter_le _ _) ?_
 unfold Dk.names;rw[List.length_map];exact Nat.le_refl _
theorem list_nodup {d:Dk}(h:d.Ok) (b:Nm):(d.list b).Nodup:=by
 unfold Dk.list sortN;exact (List.mergeSort_perm _ _).nodup_iff.2 (h.nodup.sublist List.filter_sublist)
section
variable {B:Nat→Prop} {w:World} {p l:Nat} {S:Nat→Prop} {sv:Value} {ss:List (Nat×Value)} {d:Dk} {g:Lg}
theorem lgone_any (h:LgS B w p l S sv ss d g) (x:List UInt8)(hx:x.length≤1000) :
  Calls Tryz.prog 64 #[.pointer (some ⟨p,0,none⟩),.string ⟨x.toArray⟩] w fun e w'=>e = .returned (errD (d.remove x).1)∧(∃ S',LgS B w' p l S' sv ss (d.remove x).2 g)∧Chg (Off B) w w':=by
 have h1:=remove_any h.a ⟨x.toArray⟩ (by show x.toArray.size≤_;simp;omega)
 refine h1.mono ?_
 rintro e w' ⟨he,ha,hc⟩
 have hoff:Chg (Off (BofA B l sv ss)) w w':=hc.weak fun k hk=>.inl (h.ds.sl k hk).1
 exact⟨he,⟨_,h.disk (h.ds.disk ha hc) hoff⟩,hc.weak fun k hk=>.inl (h.sl k hk).1⟩
theorem lsopen_any (h:LgS B w p l S sv ss d g)(hT:Tabs w) (dir:List UInt8)(hdir:dir.length≤100) (n:Nat) (c:List Bt×List UInt8)(hF:FdOk d dir n c) :
  Calls Tryz.prog 120 #[.pointer (some ⟨p,0,none⟩),.string ⟨dir.toArray⟩,.int .i64 (n:Nat)] w fun e w'=>
   (((openR d (segName dir n) c.1 c.2).1=0∧∃ s v S',e = .returned (.tuple #[.pointer (some ⟨s,0,none⟩),.int .i64 (c.2.length:Nat),.nilIface])∧LgS B w' p l S' sv ss (openR d (segName dir n) c.1 c.2).2 g∧SgS (BofA B l sv ss) w' p s S' v (openR d (segName dir n) c.1 c.2).2 (sgMk (segName dir n) n c.1))∨
    ((openR d (segName dir n) c.1 c.2).1≠0∧∃ S',e = .returned (.tuple #[.pointer none,.int .i64 0,errD (openR d (segName dir n) c.1 c.2).1])∧LgS B w' p l S' sv ss (openR d (segName dir n) c.1 c.2).2 g))∧Chg (Off B) w w':=by
 obtain⟨sf,hf⟩:=hF.fl
 have h1:=sopen_any h.ds hT ⟨dir.toArray⟩ (by show dir.toArray.size≤100;simp;exact hdir) n hF.hi c.1 c.2 sf hf hF.ok hF.up hF.junk
 have e1:(ByteArray.mk dir.toArray).data.toList=dir:=rfl
 rw[e1] at h1;refine h1.mono ?_
 rintro e w' ⟨hc,S',hds,hcase⟩
 have hoff:Chg (Off (BofA B l sv ss)) w w':=hc.weak fun k hk=>.inl (h.ds.sl k hk).1
 have hlg:=h.disk hds hoff
 refine⟨?_,hc.weak fun k hk=>.inl (h.sl k hk).1⟩
 rcases hcase with ⟨h0,s,v,g',_,he,hsg,hgn,hgb,hof⟩ | ⟨h0,he⟩
 ·refine .inl ⟨h0,s,v,S',he,hlg,?_⟩
  rw[←sgMk_eq hof hgn hgb]
  exact hsg
 ·exact .inr ⟨h0,S',he,hlg⟩
theorem llsync_any (h:LgS B w p l S sv ss d g)(hne:0<ss.length)(hn:g.last.name.length≤1000) :
  Calls Tryz.prog 122 #[.pointer (some ⟨(ss[ss.length-1]'(by omega)).1,0,none⟩)] w fun e w'=>e = .returned (errD (d.sync g.last.name).1)∧(∃ S',LgS B w' p l S' sv ss (d.sync g.last.name).2 g)∧Chg (Off B) w w':=by
 have hls:=h.t.lastSeg hne
 have hle:=h.len
 have e1:g.segs[ss.length-1]'(by omega)=g.last:=by rw[hls];congr 1;rw[hle]
 have h1:=h.seg (ss.length-1) (by omega)
 have h2:=ssync_any h1 (by rw[e1];exact hn)
 rw[e1] at h2;refine h2.mono ?_
 rintro e w' ⟨h3,⟨S',h4⟩,h5⟩
 refine⟨h3,⟨S',?_⟩,offI h5⟩
 have h6:=h.back (by omega) h4 h5
 have e2:ss.set (ss.length-1) ((ss[ss.length-1]'(by omega)).1,(ss[ss.length-1]'(by omega)).2)=ss:=set_same ss _ (by omega)
 have e3:g.segs.set (ss.length-1) g.last=g.segs:=by rw[←e1];exact set_same g.segs _ (by omega)
 rw[e2,e3] at h6;exact h6
end
structure OpnR (C:Nat→List Bt×List UInt8) (dir:Nm) (most:Int) (names:List Nm) (i:Nat) (d:Dk) (g:Lg) (R:Nat×Dk×List Sg×Bool):Prop where
 hdir:g.dir=dir
 hmost:g.most=most
 start:g.start=0
 safe:g.safe=0
 go:openGo dir C (names.drop i) d g.segs g.down=R
 fd:∀ x∈names.drop i,¬progBase dir x<0→FdOk d dir (progBase dir x).toNat (C (progBase dir x).toNat)
 pls:∀ s∈g.segs,s.pls.length≤100000∧s.name.length≤1000
theorem drop_cons {α:Type}{l:List α}{i:Nat}(h:i<l.length):l.drop i=l[i]::l.drop (i+1):=List.drop_eq_getElem_cons h
theorem OpnR.gone {C:Nat→List Bt×List UInt8}{dir:Nm}{most:Int}{names:List Nm}{i:Nat}{d:Dk}{g:Lg}{R:Nat×Dk×List Sg×Bool}(h:OpnR C dir most names i d g R)(hi:i<names.length)(hnd:names.Nodup)(ho:offAt dir names[i] g.segs g.down=true) :
  ((d.remove names[i]).1=0→OpnR C dir most names (i+1) (d.remove names[i]).2 g R)∧((d.remove names[i]).1≠0→R=((d.remove names[i]).1,(d.remove names[i]).2,g.segs,g.down)):=by
 have hgo:=h.go
 have hfd:=h.fd
 rw[drop_cons hi] at hgo hfd
 rw[openGo,if_pos ho] at hgo
 refine⟨fun h0=>?_,fun h0=>?_⟩
 ·rw[if_pos h0] at hgo
  refine⟨h.hdir,h.hmost,h.start,h.safe,hgo,fun x hx hb=>?_,h.pls⟩
  have hne:x≠names[i]:=fun e=>by
   have h1:(names.drop i).Nodup:=hnd.sublist (List.drop_sublist _ _)
   rw[drop_cons hi,List.nodup_cons] at h1
   exact h1.1 (e ▸ hx)
  refine (hfd x (List.mem_cons_of_mem _ hx) hb).same (remove_other d ?_)
  rw[(prog_name hb).1]
  exact hne
 ·rw[if_neg h0] at hgo
  exact hgo.symm
theorem OpnR.opened {C:Nat→List Bt×List UInt8}{dir:Nm}{most:Int}{names:List Nm}{i:Nat}{d:Dk}{g:Lg}{R:Nat×Dk×List Sg×Bool}(h:OpnR C dir most names i d g R)(hi:i<names.length)(hnd:names.Nodup)(hok:d.Ok)(ho:offAt dir names[i] g.segs g.down=false) {n:Nat}(hn:progBase dir names[i]=n) {c:List Bt×List UInt8}(hc:C n=c) :
  FdOk d dir n c∧segName dir n=names[i]∧
  ((openR d (segName dir n) c.1 c.2).1=0→OpnR C dir most names (i+1) (openR d (segName dir n) c.1 c.2).2 { g with segs:=g.segs++[sgMk (segName dir n) n c.1],down:=decide (0<c.2.length) } R)∧
  ((openR d (segName dir n) c.1 c.2).1≠0→R=((openR d (segName dir n) c.1 c.2).1,(openR d (segName dir n) c.1 c.2).2,g.segs,g.down)):=by
 have hb:¬progBase dir names[i]<0:=by rw[hn];omega
 have hnm:=prog_name hb
 rw[hn,Int.toNat_natCast] at hnm;have hgo:=h.go
 have hfd:=h.fd
 rw[drop_cons hi] at hgo hfd
 rw[openGo,if_neg (by rw[ho];simp),hn,Int.toNat_natCast,hc,←hnm.1] at hgo
 have hF:=hfd names[i] (List.mem_cons_self ..) hb
 rw[hn,Int.toNat_natCast,hc] at hF;refine⟨hF,hnm.1,fun h0=>?_,fun h0=>?_⟩
 ·rw[if_pos h0] at hgo
  refine⟨h.hdir,h.hmost,h.start,h.safe,hgo,fun x hx hb=>?_,fun s hs=>?_⟩
  ·have hne:x≠names[i]:=fun e=>by
    have h1:(names.drop i).Nodup:=hnd.sublist (List.drop_sublist _ _)
    rw[drop_cons hi,List.nodup_cons] at h1
    exact h1.1 (e ▸ hx)
   refine (hfd x (List.mem_cons_of_mem _ hx) hb).same (openR_other ?_ _ _)
   rw[(prog_name hb).1,hnm.1]
   exact hne
  ·rcases List.mem_append.1 hs with hs | hs
   ·exact h.pls s hs
   ·rw[List.mem_singleton.1 hs]
    obtain⟨sf,hf⟩:=hF.fl
    have h1:=used_le hf
    have h2:=hok.fits
    have h3:=hok.room
    have h4:=batBs_len hF.ok
    have h1:(batBs c.1++c.2).length≤d.used:=h1
    rw[List.length_append] at h1;have h5:(segName dir n).length≤40:=hok.short _ (Classical.byContradiction fun hnn=>by
     have h6:d.find (segName dir n)=none:=lookup_none.2 hnn
     rw[hf] at h6;cases h6)
    refine⟨?_,by show (segName dir n).length≤1000;omega⟩
    show (plsOf 0 c.1).length≤100000
    rw[plsOf_length];omega
 ·rw[if_neg h0] at hgo
  exact hgo.symm
def LOpenAt (B:Nat→Prop) (w w':World) (p:Nat) (R:Nat×Dk×Lg) (e:Ending):Prop:=
 Chg (Off B) w w'∧
 ((R.1=0∧∃ l S' sv ss,e = .returned (.tuple #[.pointer (some ⟨l,0,none⟩),.nilIface])∧w.heap.size≤l∧LgS B w' p l S' sv ss R.2.1 R.2.2)∨
  (R.1≠0∧∃ S',e = .returned (.tuple #[.pointer none,errD R.1])∧DsS B w' p S' R.2.1))
theorem LgS.dsB {B B':Nat→Prop}{w:World}{p l:Nat}{S:Nat→Prop}{sv:Value}{ss:List (Nat×Value)}{d:Dk}{g:Lg}(h:LgS B w p l S sv ss d g)(hB:∀ k,B' k→B k):DsS B' w p S d:=
 ⟨fun k hk=>h.lo k (hB k hk),h.a,fun k hk=>⟨fun hb=>(h.sl k hk).1 (hB k hb),(h.sl k hk).2.2.2⟩⟩
end Go.Proofs.YtobegmcbfgnpnaaGreatDoor
