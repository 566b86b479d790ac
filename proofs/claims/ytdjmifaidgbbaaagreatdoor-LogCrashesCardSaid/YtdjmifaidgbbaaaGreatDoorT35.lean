/-
  A log is opened, whatever the disk has of it: the parts. (Of the logs' seat.)
-/
import Derived.Test.YtdjmifaidgbbaaaGreatDoorT34
set_option linter.unusedVariables false
set_option linter.unusedSimpArgs false
set_option maxHeartbeats 0
set_option maxRecDepth 200000
namespace Go.Proofs.YtdjmifaidgbbaaaGreatDoor
open Go.RowKit Go.Maps
theorem prog_name {d nm:List UInt8}(h:¬progBase d nm<0):segName d (progBase d nm).toNat=nm∧(progBase d nm).toNat≤1099511627776:=by
 by_cases hx:∃ n:Nat,n≤1099511627776∧segName d n=nm
 ·obtain⟨n,hn,rfl⟩:=hx
  rw[prog_hit d hn,Int.toNat_natCast]
  exact⟨rfl,hn⟩
 ·rw[prog_miss (fun n hn e=>hx ⟨n,hn,e⟩)] at h
  omega
def TabF (n:String):Prop:=TabN n∨n = "strconv.ErrSyntax"∨n = "strconv.ErrRange"
def TabEB (B:Nat→Prop):Prop:=∀ n,TabF n→∀ g,Tryz.prog.globalNamed n=some g→B g
theorem TabEB.tabs {B:Nat→Prop}(h:TabEB B):TabB B:=fun n hn g hg=>h n (.inl hn) g hg
theorem TabE.off {S:Nat→Prop}{w w':World}(h:TabE w) (k:Chg S w w')(hn:∀ n,TabF n→∀ g,Tryz.prog.globalNamed n=some g→¬S g):TabE w':=by
 obtain⟨h1,⟨tp,p,h2⟩,⟨tp',p',h3⟩⟩:=h
 exact⟨h1.off k (fun n hm=>hn n (.inl hm)),⟨tp,p,var_off k (hn _ (.inr (.inl rfl))) h2⟩,⟨tp',p',var_off k (hn _ (.inr (.inr rfl))) h3⟩⟩
theorem TabE.offB {B:Nat→Prop}{w w':World}(h:TabE w)(hB:TabEB B) (k:Chg (Off B) w w'):TabE w':=h.off k fun n hn g hg ho=>ho (hB n hn g hg)
theorem TabE.lt {w:World}(h:TabE w):TabEB (fun k=>k<w.heap.size):=by
 rintro n (rfl | rfl | rfl) g hg
 ·exact var_lt h.tabs.pow hg
 ·obtain⟨_,_,h2⟩:=h.syn
  exact var_lt h2 hg
 ·obtain⟨_,_,h2⟩:=h.rng
  exact var_lt h2 hg
theorem OwnS.own {B:Nat}{w:World}{v:Value}{l:List Nm}(h:OwnS B w v l) {k:Nat}(hk:v.ownBlock=some k):B≤k∧k<w.heap.size:=by
 rcases h.2 with ⟨rfl,_⟩ | ⟨g,cap,cur,rfl,hb,hg,_⟩
 ·cases hk
 ·obtain rfl:g=k:=Option.some.inj hk
  exact⟨hb,(Array.getElem?_eq_some_iff.1 hg).1⟩
theorem OwnS.vals {B:Nat}{w:World}{v:Value}{l:List Nm}(h:OwnS B w v l):∃ a cap,v = .slice a l.length cap∧∀ i (h:i<l.length),∃ g,a=some ⟨g,0,none⟩∧w.cell? ⟨g,i,none⟩=some (.string ⟨l[i].toArray⟩):=by
 rcases h.2 with ⟨rfl,hn⟩ | ⟨g,cap,cur,rfl,_,_,hle,_⟩
 ·exact⟨none,0,by rw[hn],fun i hi=>absurd hi (by omega)⟩
 ·have e1:∀ j,(⟨g,0,none⟩:Addr).add j=⟨g,j,none⟩:=fun j=>by unfold Addr.add;split<;>simp_all
  refine⟨some ⟨g,0,none⟩,cap,rfl,fun i hi=>⟨g,rfl,?_⟩⟩
  have:=World.ownsRow.cells h (g:=g) rfl i (.string ⟨l[i].toArray⟩) (by rw[List.getElem?_map,List.getElem?_eq_getElem hi];rfl)
  rwa [e1] at this
theorem list_known {w:World}{p:Nat}{S:Nat→Prop}{d:Dk}(h:DiskAt w p S d) (bg:ByteArray) :
  Calls Tryz.prog 49 #[.pointer (some ⟨p,0,none⟩),.string bg] w fun e w'=>∃ v,e = .returned v∧OwnS w.heap.size w' v (d.list bg.data.toList)∧Chg Nil w w':=by
 obtain⟨mb,fs,sv,con,hd,hfs,hS,hok⟩:=h
 have hnm:d.names=fs.map (·.1):=by
  unfold Dk.names;rw[hfs,List.map_map];rfl
 have hfn:fs.length≤200:=by
  have:=hok.few
  rw[hfs,List.length_map] at this;exact this
 have h1:=list_any hd hfn bg
 rw[←hnm] at h1;exact h1
theorem list_mem {d:Dk}{b x:Nm}:x∈d.list b↔x∈d.names∧b.isPrefixOf x=true:=by
 unfold Dk.list sortN;rw[(List.mergeSort_perm _ _).mem_iff,List.mem_filter]
theorem list_len (d:Dk) (b:Nm):(d.list b).length≤d.fs.length:=by
 unfold Dk.list;rw[sortN_len];refine Nat.le_trans (List.length_filter_le _ _) ?_
 unfold Dk.names;rw[List.length_map];exact Nat.le_refl _
theorem list_nodup {d:Dk}(h:d.Ok) (b:Nm):(d.list b).Nodup:=by
 unfold Dk.list sortN;exact (List.mergeSort_perm _ _).nodup_iff.2 (h.nodup.sublist List.filter_sublist)
section
variable {B:Nat→Prop} {w:World} {p l:Nat} {S:Nat→Prop} {sv:Value} {ss:List (Nat×Value)} {d:Dk} {g:Lg}
theorem lgone_any (h:LgS B w p l S sv ss d g) (x:List UInt8)(hx:x.length≤1000) :
  Calls Tryz.prog 51 #[.pointer (some ⟨p,0,none⟩),.string ⟨x.toArray⟩] w fun e w'=>e = .returned (errD (d.remove x).1)∧(∃ S',LgS B w' p l S' sv ss (d.remove x).2 g)∧Chg (Off B) w w':=by
 have h1:=remove_any h.a ⟨x.toArray⟩ (by show x.toArray.size≤_;simp;omega)
 refine h1.mono ?_
 rintro e w' ⟨he,ha,hc⟩
 have hoff:Chg (Off (BofA B l sv ss)) w w':=hc.weak fun k hk=>.inl (h.ds.sl k hk).1
 exact⟨he,⟨_,h.disk (h.ds.disk ha hc) hoff⟩,hc.weak fun k hk=>.inl (h.sl k hk).1⟩
theorem lsopen_any (h:LgS B w p l S sv ss d g)(hT:Tabs w) (dir:List UInt8)(hdir:dir.length≤100) (n:Nat) (c:List Bt×List UInt8)(hF:FdOk d dir n c) :
  Calls Tryz.prog 53 #[.pointer (some ⟨p,0,none⟩),.string ⟨dir.toArray⟩,.int .i64 (n:Nat)] w fun e w'=>
   (((openR d (segName dir n) c.1 c.2).1=0∧∃ s v S',e = .returned (.tuple #[.pointer (some ⟨s,0,none⟩),.int .i64 (c.2.length:Nat),.nilIface])∧LgS B w' p l S' sv ss (openR d (segName dir n) c.1 c.2).2 g∧SgS (BofA B l sv ss) w' p s S' v (openR d (segName dir n) c.1 c.2).2 (sgMk (segName dir n) n c.1))∨
    ((openR d (segName dir n) c.1 c.2).1≠0∧∃ S',e = .returned (.tuple #[.pointer none,.int .i64 0,errD (openR d (segName dir n) c.1 c.2).1])∧LgS B w' p l S' sv ss (openR d (segName dir n) c.1 c.2).2 g))∧Chg (Off B) w w':=by
 obtain⟨sf,hf⟩:=hF.fl
 have h1:=sopen_any h.ds hT ⟨dir.toArray⟩ (by show dir.toArray.size≤100;simp;exact hdir) n hF.hi c.1 c.2 sf hf hF.ok hF.up hF.junk
 have e1:(ByteArray.mk dir.toArray).data.toList=dir:=rfl
 rw[e1] at h1;refine h1.mono ?_
 rintro e w' ⟨hc,S',hds,hcase⟩
 have hoff:Chg (Off (BofA B l sv ss)) w w':=hc.weak fun k hk=>.inl (h.ds.sl k hk).1
 have hlg:=h.disk hds hoff
 refine⟨?_,hc.weak fun k hk=>.inl (h.sl k hk).1⟩
 rcases hcase with ⟨h0,s,v,g',_,he,hsg,hgn,hgb,hof⟩ | ⟨h0,he⟩
 ·refine .inl ⟨h0,s,v,S',he,hlg,?_⟩
  rw[←sgMk_eq hof hgn hgb]
  exact hsg
 ·exact .inr ⟨h0,S',he,hlg⟩
theorem llsync_any (h:LgS B w p l S sv ss d g)(hne:0<ss.length)(hn:g.last.name.length≤1000) :
  Calls Tryz.prog 56 #[.pointer (some ⟨(ss[ss.length-1]'(by omega)).1,0,none⟩)] w fun e w'=>e = .returned (errD (d.sync g.last.name).1)∧(∃ S',LgS B w' p l S' sv ss (d.sync g.last.name).2 g)∧Chg (Off B) w w':=by
 have hls:=h.t.lastSeg hne
 have hle:=h.len
 have e1:g.segs[ss.length-1]'(by omega)=g.last:=by rw[hls];congr 1;rw[hle]
 have h1:=h.seg (ss.length-1) (by omega)
 have h2:=ssync_any h1 (by rw[e1];exact hn)
 rw[e1] at h2;refine h2.mono ?_
 rintro e w' ⟨h3,⟨S',h4⟩,h5⟩
 refine⟨h3,⟨S',?_⟩,offI h5⟩
 have h6:=h.back (by omega) h4 h5
 have e2:ss.set (ss.length-1) ((ss[ss.length-1]'(by omega)).1,(ss[ss.length-1]'(by omega)).2)=ss:=set_same ss _ (by omega)
 have e3:g.segs.set (ss.length-1) g.last=g.segs:=by rw[←e1];exact set_same g.segs _ (by omega)
 rw[e2,e3] at h6;exact h6
end
structure OpnR (C:Nat→List Bt×List UInt8) (dir:Nm) (most:Int) (names:List Nm) (i:Nat) (d:Dk) (g:Lg) (R:Nat×Dk×List Sg×Bool):Prop where
 hdir:g.dir=dir
 hmost:g.most=most
 start:g.start=0
 safe:g.safe=0
 go:openGo dir C (names.drop i) d g.segs g.down=R
 fd:∀ x∈names.drop i,¬progBase dir x<0→FdOk d dir (progBase dir x).toNat (C (progBase dir x).toNat)
 pls:∀ s∈g.segs,s.pls.length≤100000∧s.name.length≤1000
theorem drop_cons {α:Type}{l:List α}{i:Nat}(h:i<l.length):l.drop i=l[i]::l.drop (i+1):=List.drop_eq_getElem_cons h
theorem OpnR.gone {C:Nat→List Bt×List UInt8}{dir:Nm}{most:Int}{names:List Nm}{i:Nat}{d:Dk}{g:Lg}{R:Nat×Dk×List Sg×Bool}(h:OpnR C dir most names i d g R)(hi:i<names.length)(hnd:names.Nodup)(ho:offAt dir names[i] g.segs g.down=true) :
  ((d.remove names[i]).1=0→OpnR C dir most names (i+1) (d.remove names[i]).2 g R)∧((d.remove names[i]).1≠0→R=((d.remove names[i]).1,(d.remove names[i]).2,g.segs,g.down)):=by
 have hgo:=h.go
 have hfd:=h.fd
 rw[drop_cons hi] at hgo hfd
 rw[openGo,if_pos ho] at hgo
 refine⟨fun h0=>?_,fun h0=>?_⟩
 ·rw[if_pos h0] at hgo
  refine⟨h.hdir,h.hmost,h.start,h.safe,hgo,fun x hx hb=>?_,h.pls⟩
  have hne:x≠names[i]:=fun e=>by
   have h1:(names.drop i).Nodup:=hnd.sublist (List.drop_sublist _ _)
   rw[drop_cons hi,List.nodup_cons] at h1
   exact h1.1 (e ▸ hx)
  refine (hfd x (List.mem_cons_of_mem _ hx) hb).same (remove_other d ?_)
  rw[(prog_name hb).1]
  exact hne
 ·rw[if_neg h0] at hgo
  exact hgo.symm
theorem OpnR.opened {C:Nat→List Bt×List UInt8}{dir:Nm}{most:Int}{names:List Nm}{i:Nat}{d:Dk}{g:Lg}{R:Nat×Dk×List Sg×Bool}(h:OpnR C dir most names i d g R)(hi:i<names.length)(hnd:names.Nodup)(hok:d.Ok)(ho:offAt dir names[i] g.segs g.down=false) {n:Nat}(hn:progBase dir names[i]=n) {c:List Bt×List UInt8}(hc:C n=c) :
  FdOk d dir n c∧segName dir n=names[i]∧
  ((openR d (segName dir n) c.1 c.2).1=0→OpnR C dir most names (i+1) (openR d (segName dir n) c.1 c.2).2 { g with segs:=g.segs++[sgMk (segName dir n) n c.1],down:=decide (0<c.2.length) } R)∧
  ((openR d (segName dir n) c.1 c.2).1≠0→R=((openR d (segName dir n) c.1 c.2).1,(openR d (segName dir n) c.1 c.2).2,g.segs,g.down)):=by
 have hb:¬progBase dir names[i]<0:=by rw[hn];omega
 have hnm:=prog_name hb
 rw[hn,Int.toNat_natCast] at hnm;have hgo:=h.go
 have hfd:=h.fd
 rw[drop_cons hi] at hgo hfd
 rw[openGo,if_neg (by rw[ho];simp),hn,Int.toNat_natCast,hc,←hnm.1] at hgo
 have hF:=hfd names[i] (List.mem_cons_self ..) hb
 rw[hn,Int.toNat_natCast,hc] at hF;refine⟨hF,hnm.1,fun h0=>?_,fun h0=>?_⟩
 ·rw[if_pos h0] at hgo
  refine⟨h.hdir,h.hmost,h.start,h.safe,hgo,fun x hx hb=>?_,fun s hs=>?_⟩
  ·have hne:x≠names[i]:=fun e=>by
    have h1:(names.drop i).Nodup:=hnd.sublist (List.drop_sublist _ _)
    rw[drop_cons hi,List.nodup_cons] at h1
    exact h1.1 (e ▸ hx)
   refine (hfd x (List.mem_cons_of_mem _ hx) hb).same (openR_other ?_ _ _)
   rw[(prog_name hb).1,hnm.1]
   exact hne
  ·rcases List.mem_append.1 hs with hs | hs
   ·exact h.pls s hs
   ·rw[List.mem_singleton.1 hs]
    obtain⟨sf,hf⟩:=hF.fl
    have h1:=used_le hf
    have h2:=hok.fits
    have h3:=hok.room
    have h4:=batBs_len hF.ok
    have h1:(batBs c.1++c.2).length≤d.used:=h1
    rw[List.length_append] at h1;have h5:(segName dir n).length≤40:=hok.short _ (Classical.byContradiction fun hnn=>by
     have h6:d.find (segName dir n)=none:=lookup_none.2 hnn
     rw[hf] at h6;cases h6)
    refine⟨?_,by show (segName dir n).length≤1000;omega⟩
    show (plsOf 0 c.1).length≤100000
    rw[plsOf_length];omega
 ·rw[if_neg h0] at hgo
  exact hgo.symm
def LOpenAt (B:Nat→Prop) (w w':World) (p:Nat) (R:Nat×Dk×Lg) (e:Ending):Prop:=
 Chg (Off B) w w'∧
 ((R.1=0∧∃ l S' sv ss,e = .returned (.tuple #[.pointer (some ⟨l,0,none⟩),.nilIface])∧w.heap.size≤l∧LgS B w' p l S' sv ss R.2.1 R.2.2)∨
  (R.1≠0∧∃ S',e = .returned (.tuple #[.pointer none,errD R.1])∧DsS B w' p S' R.2.1))
theorem LgS.dsB {B B':Nat→Prop}{w:World}{p l:Nat}{S:Nat→Prop}{sv:Value}{ss:List (Nat×Value)}{d:Dk}{g:Lg}(h:LgS B w p l S sv ss d g)(hB:∀ k,B' k→B k):DsS B' w p S d:=
 ⟨fun k hk=>h.lo k (hB k hk),h.a,fun k hk=>⟨fun hb=>(h.sl k hk).1 (hB k hb),(h.sl k hk).2.2.2⟩⟩
theorem xor_half2 (x y:Nat):(x ^^^ y) / 2=(x / 2) ^^^ (y / 2):=by
 apply Nat.eq_of_testBit_eq
 intro i;rw[←Nat.testBit_succ,Nat.testBit_xor,Nat.testBit_xor,Nat.testBit_succ,Nat.testBit_succ]
theorem xor_mod2 (x y:Nat):(x ^^^ y) % 2=(x % 2+y % 2) % 2:=by
 have h:=Nat.testBit_xor x y 0
 simp only[Nat.testBit_zero] at h
 have hx:=Nat.mod_two_eq_zero_or_one x
 have hy:=Nat.mod_two_eq_zero_or_one y
 have hz:=Nat.mod_two_eq_zero_or_one (x ^^^ y)
 rcases hx with hx | hx<;>rcases hy with hy | hy<;>rcases hz with hz | hz<;>simp_all
theorem cbit_xor (x y:Nat):cbit (x ^^^ y)=cbit x ^^^ cbit y:=by
 unfold cbit;rw[xor_half2,xor_mod2];have hx:=Nat.mod_two_eq_zero_or_one x
 have hy:=Nat.mod_two_eq_zero_or_one y
 generalize x / 2=a
 generalize y / 2=b
 have comm:∀ p:Nat,(a ^^^ p) ^^^ (b ^^^ p)=a ^^^ b:=fun p=>by
  rw[Nat.xor_comm b p,Nat.xor_assoc,←Nat.xor_assoc p p,Nat.xor_self,Nat.zero_xor]
 rcases hx with hx | hx<;>rcases hy with hy | hy<;>simp only[hx,hy]<;>simp
 ·rw[Nat.xor_assoc]
 ·rw[Nat.xor_assoc,Nat.xor_assoc,Nat.xor_comm b]
 ·exact (comm _).symm
theorem cbits_xor (k:Nat) (x y:Nat):cbits k (x ^^^ y)=cbits k x ^^^ cbits k y:=by
 induction k with
 | zero=>rfl
 | succ k ih=>rw[cbits,ih,cbit_xor];rfl
theorem cbit_low {d m:Nat}(hd:d<4294967296)(hm:m≤31)(h:cbit d<2 ^ m):d=2*cbit d:=by
 unfold cbit at *
 by_cases h1:d % 2=1
 ·rw[if_pos h1] at h
  have top:(d / 2).testBit 31=false:=Nat.testBit_lt_two_pow (by omega)
  have hp:(3988292384:Nat).testBit 31=true:=by decide
  have hx:((d / 2) ^^^ 3988292384).testBit 31=true:=by rw[Nat.testBit_xor,top,hp];rfl
  have hl:((d / 2) ^^^ 3988292384).testBit 31=false:=Nat.testBit_lt_two_pow (Nat.lt_of_lt_of_le h (Nat.pow_le_pow_right (by omega) hm))
  rw[hx] at hl;cases hl
 ·rw[if_neg h1]
  omega
theorem cbits_low:∀ (k:Nat) {d m:Nat},d<4294967296→m+k≤32→cbits k d<2 ^ m→d=2 ^ k*cbits k d
 | 0,d,m,_,_,_=>by simp[cbits]
 | k+1,d,m,hd,hm,h=>by
  have h1:cbits k d=2*cbits (k+1) d:=cbit_low (cbits_lt k hd) (by omega) h
  have h2:cbits k d<2 ^ (m+1):=by rw[h1,Nat.pow_succ];omega
  have h3:=cbits_low k hd (by omega) h2
  conv=>lhs;rw[h3,h1]
  rw[Nat.pow_succ,Nat.mul_assoc]
theorem xor_zero_eq {a b:Nat}(h:a ^^^ b=0):a=b:=by
 have:a ^^^ (a ^^^ b)=a ^^^ 0:=by rw[h]
 rw[←Nat.xor_assoc,Nat.xor_self,Nat.zero_xor,Nat.xor_zero] at this;exact this.symm
theorem fold_low:∀ (k:Nat) (x y:List UInt8),x.length=k→y.length=k→k≤3→∀ {v u:Nat},v<4294967296→u<4294967296→x.foldl cbyte v=y.foldl cbyte u→v ^^^ u<2 ^ (8*k)
 | 0,x,y,hx,hy,_,v,u,_,_,h=>by
  rw[List.eq_nil_of_length_eq_zero hx,List.eq_nil_of_length_eq_zero hy] at h
  have h:v=u:=h
  rw[h,Nat.xor_self];decide
 | k+1,[],y,hx,hy,_,v,u,_,_,h=>by cases hx
 | k+1,a::x,[],hx,hy,_,v,u,_,_,h=>by cases hy
 | k+1,a::x,b::y,hx,hy,hk,v,u,hv,hu,h=>by
  simp only[List.foldl_cons] at h
  have h1:=fold_low k x y (by simpa using hx) (by simpa using hy) (by omega) (cbyte_lt a hv) (cbyte_lt b hu) h
  unfold cbyte at h1;rw[←cbits_xor] at h1;have hab:v ^^^ a.toNat ^^^ (u ^^^ b.toNat)=(v ^^^ u) ^^^ (a.toNat ^^^ b.toNat):=by
   rw[Nat.xor_assoc,Nat.xor_assoc];congr 1
   rw[←Nat.xor_assoc,←Nat.xor_assoc,Nat.xor_comm a.toNat u]
  rw[hab] at h1;have hs:a.toNat ^^^ b.toNat<2 ^ 8:=Nat.xor_lt_two_pow (u8_lt a) (u8_lt b)
  have hl:=cbits_low 8 (Nat.xor_lt_two_pow (n:=32) (Nat.xor_lt_two_pow (n:=32) hv hu) (Nat.lt_trans hs (by decide))) (by omega) h1
  have h2:(v ^^^ u) ^^^ (a.toNat ^^^ b.toNat)<2 ^ (8*(k+1)):=by
   rw[hl,show 8*(k+1)=8+8*k by omega,Nat.pow_add]
   exact Nat.mul_lt_mul_of_pos_left h1 (by decide)
  have h3:=Nat.xor_lt_two_pow (n:=8*(k+1)) h2 (Nat.lt_of_lt_of_le hs (Nat.pow_le_pow_right (by omega) (by omega):2 ^ 8≤2 ^ (8*(k+1))))
  rwa [Nat.xor_assoc,Nat.xor_self,Nat.xor_zero] at h3
theorem fold_three:∀ (x y:List UInt8),x.length=y.length→x.length≤3→∀ {v:Nat},v<4294967296→x.foldl cbyte v=y.foldl cbyte v→x=y
 | [],[],_,_,_,_,_=>rfl
 | [],b::y,h,_,_,_,_=>by cases h
 | a::x,[],h,_,_,_,_=>by cases h
 | a::x,b::y,hl,hk,v,hv,h=>by
  simp only[List.foldl_cons] at h
  have hxy:x.length=y.length:=by simpa using hl
  have hx2:x.length≤2:=by simpa using hk
  have h1:=fold_low x.length x y rfl hxy.symm (by omega) (cbyte_lt a hv) (cbyte_lt b hv) h
  unfold cbyte at h1;rw[←cbits_xor] at h1;have hab:v ^^^ a.toNat ^^^ (v ^^^ b.toNat)=a.toNat ^^^ b.toNat:=by
   rw[Nat.xor_comm v,Nat.xor_assoc,←Nat.xor_assoc v v,Nat.xor_self,Nat.zero_xor]
  rw[hab] at h1;have hs:a.toNat ^^^ b.toNat<2 ^ 8:=Nat.xor_lt_two_pow (u8_lt a) (u8_lt b)
  have hl8:=cbits_low 8 (Nat.lt_trans hs (by decide)) (by omega) h1
  have hz:a.toNat ^^^ b.toNat=0:=by omega
  have he:a=b:=UInt8.toNat_inj.1 (xor_zero_eq hz)
  subst he;rw[fold_three x y hxy (by omega) (cbyte_lt a hv) h]
theorem sum_tail {p x y:List UInt8}(hl:x.length=y.length)(h3:x.length≤3)(h:sumOf (p++x)=sumOf (p++y)):x=y:=by
 have h':=xor_left_inj h
 unfold crc at h'
 rw[List.foldl_append,List.foldl_append] at h';exact fold_three x y hl h3 (crc_lt p) h'
theorem fromB_alike {l m:List UInt8}(h:∀ j,j<4→l[j]? = m[j]?):fromB l=fromB m:=by
 rw[fromB_eq,fromB_eq];simp only[List.getD_eq_getElem?_getD,h 0 (by omega),h 1 (by omega),h 2 (by omega),h 3 (by omega)]
theorem Bt.Ok.sum {b:Bt}(h:b.Ok):fromB b.bytes=b.bytes.length∧sumOf (b.bytes.drop 8)=fromB (b.bytes.drop 4):=by
 obtain⟨h0,hl,hf,hp⟩:=decErr_enc h.err
 have e:encAll b.base b.en b.rs=b.bytes:=rfl
 rw[e] at h0 hl hf
 have h6:=h.nums.some
 have hL:fromB b.bytes=b.bytes.length:=by omega
 refine⟨hL,?_⟩
 unfold decErr at h0;rw[hL] at h0;rw[if_neg (by omega)] at h0
 by_cases g2:b.bytes.length<11∨6000<b.bytes.length
 ·rw[if_pos g2] at h0;cases h0
 rw[if_neg g2,if_neg (by omega),List.take_length] at h0
 by_cases g4:sumOf (b.bytes.drop 8)≠fromB (b.bytes.drop 4)
 ·rw[if_pos g4] at h0;cases h0
 ·exact Decidable.not_not.1 g4
theorem decErr_zero {T:List UInt8}(h:decErr T=0):11≤fromB T∧fromB T≤T.length∧sumOf ((T.take (fromB T)).drop 8)=fromB (T.drop 4):=by
 unfold decErr at h;by_cases g1:T.length<8
 ·rw[if_pos g1] at h;cases h
 rw[if_neg g1] at h
 by_cases g2:fromB T<11∨6000<fromB T
 ·rw[if_pos g2] at h;cases h
 rw[if_neg g2] at h
 by_cases g3:T.length<fromB T
 ·rw[if_pos g3] at h;cases h
 rw[if_neg g3] at h
 by_cases g4:sumOf ((T.take (fromB T)).drop 8)≠fromB (T.drop 4)
 ·rw[if_pos g4] at h;cases h
 exact⟨by omega,by omega,Decidable.not_not.1 g4⟩
theorem torn_one {b:Bt}(h:b.Ok) {c:Nat}{more:List UInt8}(hm:more.length≤3)(hc:c<b.bytes.length)(hd:decErr ((b.bytes.take c++more).take 6000)=0):b.bytes.length≤c+more.length∧(b.bytes.take c++more).take b.bytes.length=b.bytes:=by
 obtain⟨d1,d2,d3⟩:=decErr_zero hd
 obtain⟨s1,s2⟩:=h.sum
 have hn:=h.nums
 have hlen:=hn.len
 obtain⟨J,hJ⟩:∃ J,b.bytes.take c++more=J:=⟨_,rfl⟩
 have hJl:J.length=c+more.length:=by rw[←hJ,List.length_append,List.length_take];omega
 rw[hJ] at d1 d2 d3 ⊢
 rw[List.length_take] at d2;have hc8:8≤c:=by omega
 have hsame:∀ j,j<c→(J.take 6000)[j]? = b.bytes[j]?:=by
  intro j hj;rw[List.getElem?_take,if_pos (by omega),←hJ,List.getElem?_append_left (by rw[List.length_take];omega),List.getElem?_take,if_pos hj]
 have hf:fromB (J.take 6000)=b.bytes.length:=by
  rw[←s1];exact fromB_alike fun j hj=>hsame j (by omega)
 have hf4:fromB ((J.take 6000).drop 4)=fromB (b.bytes.drop 4):=by
  refine fromB_alike fun j hj=>?_
  rw[List.getElem?_drop,List.getElem?_drop]
  exact hsame _ (by omega)
 rw[hf] at d1 d2 d3
 rw[hf4,←s2] at d3;have hL:b.bytes.length≤c+more.length:=by omega
 refine⟨hL,?_⟩
 have e1:(J.take 6000).take b.bytes.length=J.take b.bytes.length:=by rw[List.take_take,Nat.min_eq_left hlen]
 have e2:J.take b.bytes.length=b.bytes.take c++more.take (b.bytes.length-c):=by
  have hcl:(b.bytes.take c).length=c:=by rw[List.length_take];omega
  rw[←hJ,List.take_append,List.take_of_length_le (by omega),hcl]
 rw[e1,e2,List.drop_append_of_le_length (by rw[List.length_take];omega)] at d3
 have e3:b.bytes.drop 8=(b.bytes.take c).drop 8++b.bytes.drop c:=by
  conv=>lhs;rw[←List.take_append_drop c b.bytes]
  rw[List.drop_append_of_le_length (by rw[List.length_take];omega)]
 rw[e3] at d3;have hx:=sum_tail (by rw[List.length_take,List.length_drop];omega) (by rw[List.length_take];omega) d3
 rw[e2,hx,List.take_append_drop]
theorem torn_end {l:List Bt}(hok:∀ b∈l,b.Ok) {cut n:Nat}{more F:List UInt8}(hm:more.length≤3)(hc:cut≤(batBs l).length)(hn:n≤l.length)(hF:F=(batBs l).take cut++more)
  (hpre:F.take (batBs (l.take n)).length=batBs (l.take n))
  (hmax:n<l.length→¬F.take (batBs (l.take (n+1))).length=batBs (l.take (n+1))) :
  ∃ junk,F=batBs (l.take n)++junk∧(junk≠[]→decErr (junk.take 6000)≠0):=by
 refine⟨F.drop (batBs (l.take n)).length,?_,fun _ hd=>?_⟩
 ·conv=>lhs;rw[←List.take_append_drop (batBs (l.take n)).length F,hpre]
 ·obtain⟨sz,hsz⟩:∃ sz,(batBs (l.take n)).length=sz:=⟨_,rfl⟩
  have hFl:F.length=cut+more.length:=by rw[hF,List.length_append,List.length_take];omega
  obtain⟨d1,d2,d3⟩:=decErr_zero hd
  rw[List.length_take,List.length_drop,hsz] at d2;rw[hsz] at d1;have hcut:sz+8≤cut:=by omega
  have hnl:n<l.length:=by
   rcases Nat.lt_or_ge n l.length with h | h
   ·exact h
   ·rw[List.take_of_length_le h] at hsz
    omega
  have hmx:=hmax hnl
  have hb:=hok _ (List.getElem_mem hnl)
  have e:batBs l=batBs (l.take n)++(l[n].bytes++batBs (l.drop (n+1))):=by
   have e:l=l.take n++l[n]::l.drop (n+1):=by rw[List.getElem_cons_drop,List.take_append_drop]
   conv=>lhs;rw[e]
   rw[batBs_append,batBs_cons]
  have e1:batBs (l.take (n+1))=batBs (l.take n)++l[n].bytes:=by rw[List.take_succ_eq_append_getElem hnl,batBs_snoc]
  have e0:F=batBs (l.take n)++((l[n].bytes++batBs (l.drop (n+1))).take (cut-sz)++more):=by
   rw[hF,e,List.take_append,List.take_of_length_le (by omega),hsz,List.append_assoc]
  have e2:F.drop (batBs (l.take n)).length=(l[n].bytes++batBs (l.drop (n+1))).take (cut-sz)++more:=by rw[e0,List.drop_left' rfl]
  have e3:F.take (batBs (l.take (n+1))).length=batBs (l.take n)++((l[n].bytes++batBs (l.drop (n+1))).take (cut-sz)++more).take l[n].bytes.length:=by
   rw[e1,List.length_append];conv=>lhs;rw[e0]
   rw[List.take_append,List.take_of_length_le (by omega)]
   congr 2
   omega
  rw[e3,e1] at hmx;rw[e2] at hd;rcases Nat.lt_or_ge (cut-sz) l[n].bytes.length with h | h
  ·have e5:(l[n].bytes++batBs (l.drop (n+1))).take (cut-sz)=l[n].bytes.take (cut-sz):=List.take_append_of_le_length (by omega)
   rw[e5] at hd hmx
   exact hmx (by rw[(torn_one hb hm h hd).2])
  ·refine hmx ?_
   rw[List.take_append_of_le_length (by rw[List.length_take,List.length_append];omega),List.take_take,Nat.min_eq_left h,List.take_left' rfl]
theorem whole_count (P:Nat→Prop) [DecidablePred P] (L:Nat)(h0:P 0):∃ n,n≤L∧(∀ k,k≤n→P k)∧(n<L→¬P (n+1)):=by
 have key:∀ m k,k+m=L→(∀ j,j≤k→P j)→∃ n,n≤L∧(∀ k,k≤n→P k)∧(n<L→¬P (n+1)):=by
  intro m;induction m with
  | zero=>intro k hk hp;exact⟨k,by omega,hp,fun h=>by omega⟩
  | succ m ih=>
   intro k hk hp;by_cases hn:P (k+1)
   ·exact ih (k+1) (by omega) (fun j hj=>by rcases Nat.lt_or_ge j (k+1) with h | h;exact hp j (by omega);rw[show j=k+1 by omega];exact hn)
   ·exact⟨k,by omega,hp,fun _=>hn⟩
 exact key L 0 (by omega) (fun j hj=>by rw[show j=0 by omega];exact h0)
theorem batBs_at (l:List Bt) (n:Nat):(batBs l).take (batBs (l.take n)).length=batBs (l.take n):=by
 conv=>lhs;rw[←List.take_append_drop n l,batBs_append]
 rw[List.take_left' (by rw[List.take_append_drop])]
theorem batBs_take_le (l:List Bt) (n:Nat):(batBs (l.take n)).length≤(batBs l).length:=by
 conv=>rhs;rw[←List.take_append_drop n l,batBs_append,List.length_append]
 omega
open Go.Lib
theorem decFrom_bound:∀ (l:List UInt8) {c a:Nat},decFrom c l=some a→c*10 ^ l.length≤a∧a<(c+1)*10 ^ l.length
 | [],c,a,h=>by
  obtain rfl:=Option.some.inj h
  simp
 | x::r,c,a,h=>by
  unfold decFrom at h;cases hd:digitVal x with
  | none=>rw[hd] at h;cases h
  | some d=>
   rw[hd] at h;have hd9:d≤9:=by
    unfold digitVal at hd;split at hd
    ·have:=Option.some.inj hd;omega
    ·cases hd
   obtain⟨h1,h2⟩:=decFrom_bound r (c:=10*c+d) (by simpa [Nat.mul_comm] using h)
   rw[List.length_cons,Nat.pow_succ];constructor
   ·refine Nat.le_trans ?_ h1
    rw[Nat.mul_comm (10 ^ r.length) 10,←Nat.mul_assoc]
    exact Nat.mul_le_mul_right _ (by omega)
   ·refine Nat.lt_of_lt_of_le h2 ?_
    rw[Nat.mul_comm (10 ^ r.length) 10,←Nat.mul_assoc]
    exact Nat.mul_le_mul_right _ (by omega)
theorem digit_lt {x y:UInt8}{a b:Nat}(hx:digitVal x=some a)(hy:digitVal y=some b)(h:x<y):a<b:=by
 unfold digitVal at hx hy;have h1:x.toNat<y.toNat:=h
 split at hx
 ·split at hy
  ·have:=Option.some.inj hx
   have:=Option.some.inj hy
   omega
  ·cases hy
 ·cases hx
theorem lex_val (t:List UInt8):∀ (l m:List UInt8) {c a b:Nat},l.length=m.length→decFrom c l=some a→decFrom c m=some b→l++t<m++t→a<b
 | [],[],c,a,b,_,_,_,h=>absurd h (List.lt_irrefl _)
 | [],_::_,c,a,b,hl,_,_,_=>by cases hl
 | _::_,[],c,a,b,hl,_,_,_=>by cases hl
 | x::l,y::m,c,a,b,hl,ha,hb,h=>by
  have hl2:l.length=m.length:=by simpa using hl
  unfold decFrom at ha hb;cases hx:digitVal x with
  | none=>rw[hx] at ha;cases ha
  | some dx=>
   cases hy:digitVal y with
   | none=>rw[hy] at hb;cases hb
   | some dy=>
    rw[hx] at ha;rw[hy] at hb;rw[List.cons_append,List.cons_append,List.cons_lt_cons_iff] at h;rcases h with h | ⟨rfl,h⟩
    ·have h1:=digit_lt hx hy h
     have h2:=(decFrom_bound l ha).2
     have h3:=(decFrom_bound m hb).1
     rw[hl2] at h2;refine Nat.lt_of_lt_of_le h2 (Nat.le_trans (Nat.mul_le_mul_right _ ?_) h3)
     omega
    ·rw[hx] at hy;obtain rfl:=Option.some.inj hy
     exact lex_val t l m hl2 ha hb h
theorem pad_from (n:Nat):decFrom 0 (pad n)=some n:=by
 unfold pad zeros;rw[decFrom_app,decFrom_zeros];exact dec_back n
theorem pad_ten {n:Nat}(h:n<10000000000):(pad n).length=10:=by
 unfold pad zeros;rw[List.length_append,List.length_replicate];have:=dec_len 9 n (by omega)
 omega
theorem app_lt (p:List UInt8):∀ {l m:List UInt8},p++l<p++m→l<m:=by
 induction p with
 | nil=>intro l m h;exact h
 | cons x p ih=>
  intro l m h;rw[List.cons_append,List.cons_append,List.cons_lt_cons_iff] at h;rcases h with h | ⟨_,h⟩
  ·exact absurd h (Nat.lt_irrefl x.toNat)
  ·exact ih h
theorem seg_le (dir:Nm) {a b:Nat}(h:a≤b)(hb:b<10000000000):segName dir a≤segName dir b:=by
 show ¬segName dir b<segName dir a
 intro hlt;rw[segName_eq,segName_eq] at hlt;have h1:=lex_val dotlog (pad b) (pad a) (by rw[pad_ten hb,pad_ten (by omega)]) (pad_from b) (pad_from a) (app_lt _ hlt)
 omega
theorem lined_pair:∀ {xs:List SgB},(∀ x∈xs,SgOf x.1 x.2)→lined xs→xs.Pairwise fun a b=>a.1.base<b.1.base
 | [],_,_=>.nil
 | x::r,h,hl=>by
  refine .cons (fun y hy=>(lined_distinct (ys:=[]) (x:=x) (r:=r) h hl).2 y hy) (lined_pair (fun y hy=>h y (List.mem_cons_of_mem _ hy)) ?_)
  cases r with
  | nil=>trivial
  | cons a r=>exact hl.2.2
theorem lastEnd_app:∀ (l r:List Bt) (n:Int),lastEnd n (l++r)=lastEnd (lastEnd n l) r
 | [],r,n=>rfl
 | a::l,r,n=>lastEnd_app l r a.en
theorem rising_app:∀ (l r:List Bt) (n:Int),rising n (l++r)→rising n l∧rising (lastEnd n l) r
 | [],r,n,h=>⟨trivial,h⟩
 | a::l,r,n,h=>⟨⟨h.1,(rising_app l r a.en h.2).1⟩,(rising_app l r a.en h.2).2⟩
theorem lastEnd_mono {l:List Bt}(hok:∀ b∈l,b.Ok) {n:Int}(hup:rising n l) {m j:Nat}(h:m≤j):lastEnd n (l.take m)≤lastEnd n (l.take j):=by
 have e:l.take j=l.take m++(l.take j).drop m:=by
  conv=>lhs;rw[←List.take_append_drop m (l.take j)]
  rw[List.take_take,Nat.min_eq_left h]
 have h1:=rising_take j hup
 rw[e] at h1;have h2:=(rising_app _ _ _ h1).2
 rw[e,lastEnd_app];exact (lastEnd_le (fun b hb=>hok b (List.mem_of_mem_take (List.mem_of_mem_drop hb))) h2).1
structure Kp (d:Dk) (dir:Nm) (ys:List SgB) (z:SgB) (k:Nat) (s:Int):Prop where
 each:∀ y∈ys,SgIn d dir y
 all:∀ y∈ys,AllSafe d y
 zof:SgOf z.1 z.2
 znm:z.1.name=segName dir z.1.base.toNat
 zlo:0≤z.1.base
 zhi:z.1.base≤1099511627776
 zfl:∃ sf m,d.find z.1.name=some ⟨(batBs z.2).take k,sf⟩∧m≤z.2.length∧(batBs (z.2.take m)).length≤sf∧s≤lastEnd z.1.base (z.2.take m)
 line:lined (ys++[z])
 only:∀ n:Nat,n≤1099511627776→(d.find (segName dir n)).isSome=true→∃ x∈ys++[z],x.1.base=n
 kn:∀ n:Nat,n≤1099511627776→dkName (segName dir n)=true
 ok:d.Ok
 pre:PreF d dir
theorem Up0.kp {d:Dk}{g:Lg}{ys:List SgB}{z:SgB}(h:Up0 d g ys z)(hp:PreF d g.dir):Kp d g.dir ys z (batBs z.2).length g.safe:=by
 have hz:=h.ok.each z (by simp)
 obtain⟨sf,m,h1,h2⟩:=h.sf.last
 exact⟨fun y hy=>h.ok.each y (List.mem_append_left _ hy),h.sf.all,hz.of,hz.nm,hz.lo,hz.hi,⟨sf,m,by rw[List.take_length];exact h1,h2⟩,h.ok.line,h.ok.only,h.ok.kn,h.ok.ok,hp⟩
theorem Kp.nm {d:Dk}{dir:Nm}{ys:List SgB}{z:SgB}{k:Nat}{s:Int}(h:Kp d dir ys z k s):∀ x∈ys++[z],x.1.name=segName dir x.1.base.toNat∧0≤x.1.base∧x.1.base≤1099511627776∧(d.find x.1.name).isSome=true∧SgOf x.1 x.2:=fun x hx=>by
 rcases List.mem_append.1 hx with hx | hx
 ·have h1:=h.each x hx
  obtain⟨sf,hf⟩:=h1.fl
  exact⟨h1.nm,h1.lo,h1.hi,by rw[hf];rfl,h1.of⟩
 ·rw[List.mem_singleton.1 hx]
  obtain⟨sf,m,hf,_⟩:=h.zfl
  exact⟨h.znm,h.zlo,h.zhi,by rw[hf];rfl,h.zof⟩
theorem Kp.same {d d':Dk}{dir:Nm}{ys:List SgB}{z:SgB}{k:Nat}{s:Int}(h:Kp d dir ys z k s)(hf:∀ n:Nat,n≤1099511627776→d'.find (segName dir n)=d.find (segName dir n))(hok:d'.Ok)(hp:PreF d' dir):Kp d' dir ys z k s:=by
 have hx:∀ x∈ys++[z],d'.find x.1.name=d.find x.1.name:=fun x hx=>by rw[(h.nm x hx).1];exact hf _ (by have:=(h.nm x hx).2;omega)
 refine⟨fun y hy=>(h.each y hy).other (hx y (List.mem_append_left _ hy)),fun y hy=>?_,h.zof,h.znm,h.zlo,h.zhi,?_,h.line,fun n hn hs=>h.only n hn (by rw[←hf n hn];exact hs),h.kn,hok,hp⟩
 ·unfold AllSafe;rw[hx y (List.mem_append_left _ hy)]
  exact h.all y hy
 ·obtain⟨sf,m,h1,h2⟩:=h.zfl
  exact⟨sf,m,by rw[hx z (by simp)];exact h1,h2⟩
theorem Kp.failed {d:Dk}{dir:Nm}{ys:List SgB}{z:SgB}{k:Nat}{s:Int}(h:Kp d dir ys z k s) {n:Int}(hn:-1≤n∧n≤9223372036854775807):Kp { d with left:=n } dir ys z k s:=
 h.same (fun _ _=>rfl) ⟨h.ok.nodup,h.ok.safe,h.ok.fits,h.ok.room,h.ok.few,hn,h.ok.short⟩ h.pre
theorem crashGo_not (fates:List UInt8) {y:Nm}:∀ (l:List Nm) (i:Nat) (d:Dk),y ∉ l→(Dk.crashGo fates i l d).find y=d.find y
 | [],_,_,_=>rfl
 | x::r,i,d,h=>by
  rw[List.mem_cons,not_or] at h;rw[Dk.crashGo,crashGo_not fates r (i+1) _ h.2]
  unfold Dk.crash1;cases d.find x with
  | none=>rfl
  | some f=>show (d.turn x (crashed f fates i)).find y=_;rw[find_turn,if_neg h.1]
theorem crashGo_in (fates:List UInt8) {y:Nm}:∀ (l:List Nm) (i:Nat) (d:Dk),l.Nodup→y∈l→∃ j,(Dk.crashGo fates i l d).find y=(d.find y).map fun f=>crashed f fates j
 | x::r,i,d,hn,h=>by
  rw[List.nodup_cons] at hn;rw[Dk.crashGo];by_cases e:y=x
  ·subst e;rw[crashGo_not fates r (i+1) _ hn.1]
   refine⟨i,?_⟩
   unfold Dk.crash1;cases hf:d.find y with
   | none=>rw[hf];rfl
   | some f=>show (d.turn y (crashed f fates i)).find y=_;rw[find_turn,if_pos rfl,hf];rfl
  ·obtain⟨j,hj⟩:=crashGo_in fates r (i+1) (d.crash1 fates i x) hn.2 ((List.mem_cons.1 h).resolve_left e)
   refine⟨j,?_⟩
   rw[hj];congr 1
   unfold Dk.crash1;cases d.find x with
   | none=>rfl
   | some f=>show (d.turn x (crashed f fates i)).find y=_;rw[find_turn,if_neg e]
theorem crash_find {d:Dk}(h:d.Ok) (fates:List UInt8) (y:Nm):∃ j,(d.crash fates).find y=(d.find y).map fun f=>crashed f fates j:=by
 show ∃ j,(Dk.crashGo fates 0 (d.list []) d).find y=_
 by_cases hy:y∈d.list []
 ·exact crashGo_in fates _ 0 d (list_nodup h _) hy
 ·refine⟨0,?_⟩
  rw[crashGo_not fates _ 0 d hy]
  have:d.find y=none:=by
   cases hf:d.find y with
   | none=>rfl
   | some f=>
    exfalso
    apply hy
    rw[list_mem];refine⟨Classical.byContradiction fun hn=>?_,rfl⟩
    rw[show d.find y=none from lookup_none.2 hn] at hf
    cases hf
  rw[this];rfl
theorem crashed_pre {f:Fl}(h:f.safe≤f.bytes.length) (fates:List UInt8) (i:Nat):f.safe≤(crashed f fates i).bytes.length∧(crashed f fates i).bytes=f.bytes.take (crashed f fates i).bytes.length∧(crashed f fates i).safe=(crashed f fates i).bytes.length∧(crashed f fates i).bytes.length≤f.bytes.length:=by
 have hk:keepOf f fates i≤f.bytes.length∧f.safe≤keepOf f fates i:=by
  unfold keepOf;split<;>omega
 have hl:(crashed f fates i).bytes.length=keepOf f fates i:=by
  show (f.bytes.take (keepOf f fates i)).length=_
  rw[List.length_take];omega
 rw[hl];exact⟨hk.2,rfl,rfl,hk.1⟩
theorem crashed_all (l:List UInt8) (fates:List UInt8) (i:Nat):crashed ⟨l,l.length⟩ fates i=⟨l,l.length⟩:=by
 have hk:keepOf ⟨l,l.length⟩ fates i=l.length:=by
  unfold keepOf;split
  ·rfl
  ·simp only;omega
 unfold crashed;rw[hk,List.take_length]
theorem Kp.crash {d:Dk}{dir:Nm}{ys:List SgB}{z:SgB}{k:Nat}{s:Int}(h:Kp d dir ys z k s) (fates:List UInt8):∃ k',Kp (d.crash fates) dir ys z k' s∧(d.crash fates).left = -1∧(d.crash fates).room=d.room:=by
 obtain⟨sf,m,h1,h2,h3,h4⟩:=h.zfl
 obtain⟨j,hj⟩:=crash_find h.ok fates z.1.name
 rw[h1,Option.map_some] at hj;have hsf:sf≤((batBs z.2).take k).length:=h.ok.safe _ (lookup_some h1)
 obtain⟨c1,c2,c3,c4⟩:=crashed_pre (f:=⟨(batBs z.2).take k,sf⟩) hsf fates j
 have hsome:∀ y,((d.crash fates).find y).isSome=(d.find y).isSome:=fun y=>by
  obtain⟨i,hi⟩:=crash_find h.ok fates y
  rw[hi];cases d.find y<;>rfl
 have hall:∀ y∈ys,(d.crash fates).find y.1.name=d.find y.1.name:=fun y hy=>by
  obtain⟨i,hi⟩:=crash_find h.ok fates y.1.name
  have h5:d.find y.1.name=_:=h.all y hy
  rw[hi,h5,Option.map_some,crashed_all]
 refine⟨(crashed ⟨(batBs z.2).take k,sf⟩ fates j).bytes.length,⟨fun y hy=>(h.each y hy).other (hall y hy),fun y hy=>?_,h.zof,h.znm,h.zlo,h.zhi,⟨(crashed ⟨(batBs z.2).take k,sf⟩ fates j).bytes.length,m,?_,h2,Nat.le_trans h3 c1,h4⟩,h.line,fun n hn hs=>h.only n hn (by rw[←hsome];exact hs),h.kn,h.ok.crash fates,fun y hy=>h.pre y (by rw[←hsome];exact hy)⟩,rfl,(crashGo_rest fates _ 0 d).1⟩
 ·unfold AllSafe;rw[hall y hy]
  exact h.all y hy
 ·rw[hj];have hl:(crashed ⟨(batBs z.2).take k,sf⟩ fates j).bytes.length≤((batBs z.2).take k).length:=c4
  rw[List.length_take] at hl;have c2':(crashed ⟨(batBs z.2).take k,sf⟩ fates j).bytes=((batBs z.2).take k).take (crashed ⟨(batBs z.2).take k,sf⟩ fates j).bytes.length:=c2
  rw[List.take_take,Nat.min_eq_left (by omega)] at c2'
  congr 1
  cases hcr:crashed ⟨(batBs z.2).take k,sf⟩ fates j with
  | mk b f=>
   rw[hcr] at c2' c3
   simp only at c2' c3 ⊢
   rw[c3,←c2']
theorem Kp.torn {d:Dk}{dir:Nm}{ys:List SgB}{z:SgB}{k:Nat}{s:Int}(h:Kp d dir ys z k s):∃ j junk,j≤z.2.length∧(batBs z.2).take k=batBs (z.2.take j)++junk∧(junk≠[]→decErr (junk.take 6000)≠0)∧∀ m,m≤z.2.length→(batBs (z.2.take m)).length≤((batBs z.2).take k).length→m≤j:=by
 have hP:∀ m,(batBs (z.2.take m)).length≤((batBs z.2).take k).length→((batBs z.2).take k).take (batBs (z.2.take m)).length=batBs (z.2.take m):=fun m hm=>by
  rw[List.length_take] at hm;rw[List.take_take,Nat.min_eq_left (by omega),batBs_at]
 obtain⟨j,j1,j2,j3⟩:=whole_count (fun n=>((batBs z.2).take k).take (batBs (z.2.take n)).length=batBs (z.2.take n)) z.2.length (by simp[batBs])
 obtain⟨cut,hc1,hc2⟩:∃ cut,cut≤(batBs z.2).length∧(batBs z.2).take k=(batBs z.2).take cut:=by
  refine⟨min k (batBs z.2).length,Nat.min_le_right _ _,?_⟩
  by_cases hk:k≤(batBs z.2).length
  ·rw[Nat.min_eq_left hk]
  ·rw[Nat.min_eq_right (by omega),List.take_of_length_le (by omega),List.take_length]
 obtain⟨junk,e1,e2⟩:=torn_end h.zof.ok (more:=[]) (F:=(batBs z.2).take k) (cut:=cut) (n:=j) (by simp) hc1 j1 (by rw[List.append_nil];exact hc2) (j2 j (Nat.le_refl _)) j3
 refine⟨j,junk,j1,e1,e2,fun m hm hl=>?_⟩
 rcases Nat.lt_or_ge j m with hjm | hjm
 ·exfalso
  refine j3 (by omega) (hP (j+1) (Nat.le_trans ?_ hl))
  have e:z.2.take m=z.2.take (j+1)++(z.2.take m).drop (j+1):=by
   conv=>lhs;rw[←List.take_append_drop (j+1) (z.2.take m)]
   rw[List.take_take,Nat.min_eq_left (by omega)]
  rw[e,batBs_append,List.length_append];omega
 ·exact hjm
def RestF (d:Dk) (L:List Nm) (xs:List SgB):Prop:=∀ y,(d.find y).isSome=true→y∈L∨∃ x∈xs,y=x.1.name
theorem step_left {d:Dk}(h:d.left = -1):d.step.left = -1:=by
 unfold Dk.step;rw[h];rfl
theorem left_does {d:Dk}(h:d.left = -1):d.does=true:=by unfold Dk.does;rw[h];rfl
theorem at_left {d:Dk}{x:Nm}{g:Fl→Nat×(Dk→Dk)}(hg:∀ f,(g f).1≠14)(hd:∀ f e,((g f).2 e).left=e.left)(h:d.left = -1):(d.at x g).1≠14∧(d.at x g).2.left = -1:=by
 unfold Dk.at;rw[if_neg (by rw[left_does h];simp)]
 cases d.find x with
 | none=>exact⟨by simp,step_left h⟩
 | some f=>exact⟨hg f,by show ((g f).2 d.step).left = -1;rw[hd];exact step_left h⟩
theorem Kp.remove {d:Dk}{dir:Nm}{ys:List SgB}{z:SgB}{k:Nat}{s:Int}(h:Kp d dir ys z k s) {x:Nm}(hx:progBase dir x<0)(hs:(d.find x).isSome=true) :
  (d.remove x=(14,d)∧d.left≠-1)∨∃ d',d.remove x=(0,d')∧Kp d' dir ys z k s∧(∀ y,d'.find y=if y=x then none else d.find y)∧d'.room=d.room∧(d.left = -1→d'.left = -1):=by
 by_cases h14:(d.remove x).1=14
 ·refine .inl ⟨remove_14 h14,fun hl=>(at_left (g:=fun _=>(0,fun d=>d.del x)) (x:=x) (fun f=>by simp) (fun f e=>rfl) hl).1 h14⟩
 ·right
  have h0:(d.remove x).1=0:=by
   have h14':=h14
   unfold Dk.remove Dk.at at h14' ⊢
   by_cases hd:d.does=false
   ·rw[if_pos hd] at h14';exact absurd rfl h14'
   ·rw[if_neg hd]
    cases hf:d.find x with
    | none=>rw[hf] at hs;cases hs
    | some f=>rfl
  obtain⟨f,hf,hd⟩:=remove_done h0
  have hfd:∀ y,(d.remove x).2.find y=if y=x then none else d.find y:=fun y=>by rw[hd,find_del,step_find]
  have hseg:∀ n:Nat,n≤1099511627776→(d.remove x).2.find (segName dir n)=d.find (segName dir n):=fun n hn=>by
   rw[hfd];split
   ·next e=>
    rw[←e,prog_hit dir hn] at hx
    omega
   ·rfl
  refine⟨(d.remove x).2,by rw[←h0],h.same hseg (remove_keeps h.ok _) (fun y hy=>h.pre y ?_),hfd,remove_room d x,fun hl=>(at_left (g:=fun _=>(0,fun d=>d.del x)) (x:=x) (fun f=>by simp) (fun f e=>rfl) hl).2⟩
  rw[hfd] at hy;split at hy
  ·cases hy
  ·exact hy
end Go.Proofs.YtdjmifaidgbbaaaGreatDoor
