/-
  A log's Forget. (Of the logs' seat.)
-/
import Derived.Test.YtdjmifaidgbbaaaGreatDoorT32
set_option linter.unusedVariables false
set_option linter.unusedSimpArgs false
set_option maxHeartbeats 0
set_option maxRecDepth 200000
namespace Go.Proofs.YtdjmifaidgbbaaaGreatDoor
open Go.RowKit Go.Maps
def forgetLg (tg:Int) (d:Dk) (g:Lg):Nat×Dk×Lg:=
 if g.down=true then (6,d,g) else if tg<0∨g.stop<tg then (2,d,g) else dropLg d { g with start:=max g.start tg }
theorem lforget_any {B:Nat→Prop} {w:World} {p l:Nat} {S:Nat→Prop} {sv:Value} {ss:List (Nat×Value)} {d:Dk} {g:Lg} (h:LgS B w p l S sv ss d g) (hn:LgN B w ss g) (hfew:ss.length≤10000) (hnm:∀ s∈g.segs,s.name.length≤1000) (tg:Int) :
  Calls Tryz.prog 37 #[.pointer (some ⟨l,0,none⟩),.int .i64 tg] w fun e w'=>e = .returned (errD (forgetLg tg d g).1)∧(∃ S' sv' ss',LgS B w' p l S' sv' ss' (forgetLg tg d g).2.1 (forgetLg tg d g).2.2∧0<ss'.length∧ss'.length≤ss.length)∧Chg (Off B) w w':=by
 have c6:=h.c.cell (j:=6) rfl
 have HH:=Lib.hid h
 by_cases hd:g.down=true
 ·have HF:Hid (forgetLg tg d g=(6,d,g)):=if_pos hd
  have HNE:=Lib.hid hn.ne
  rw[hd] at c6;clear h hn hnm hd;go_enter Tryz.func37,Tryz.ntmps37
  go_wp2_with fail;go_ret;rw[HF.out];exact⟨rfl,⟨S,sv,ss,HH.out,HNE.out,Nat.le_refl _⟩,Chg.refl _ _⟩
 have hdf:g.down=false:=by simpa using hd
 rw[hdf] at c6;obtain⟨R,hR⟩:∃ R,forgetLg tg d g=R:=⟨_,rfl⟩
 rw[hR];have HR:Hid ((if tg<0∨g.stop<tg then (2,d,g) else dropLg d { g with start:=max g.start tg })=R):=by rw[←hR];exact (if_neg hd).symm
 have HEN:=Lib.hid (fun (w':World) (hw:Chg Nil w w')=>lend_any (h.nil hw).t hn.ne hn.few (by have:=hn.pls;omega))
 obtain⟨sp,hsp⟩:∃ sp,g.stop=sp:=⟨_,rfl⟩
 rw[hsp] at HEN HR
 have HN:=Lib.hid hn
 have HNM:=Lib.hid hnm
 clear h hn hnm hd hdf hR hsp;by_cases h0:tg<0
 ·have HEND:Hid (R=(2,d,g)):=by rw[←HR.out];exact if_pos (.inl h0)
  go_enter Tryz.func37,Tryz.ntmps37
  go_wp2_with fail;go_ret;rw[HEND.out];exact⟨rfl,⟨S,sv,ss,HH.out,HN.out.ne,Nat.le_refl _⟩,Chg.refl _ _⟩
 have HEN0:=Lib.hid (HEN.out w (Chg.refl _ _))
 go_enter Tryz.func37,Tryz.ntmps37
 go_wp2_with fail;refine HEN0.out.mono ?_
 rintro e w1 ⟨rfl,hc1⟩
 have HC1:=Lib.hid hc1
 by_cases h1:sp<tg
 ·have HEND:Hid (R=(2,d,g)):=by rw[←HR.out];exact if_pos (.inr h1)
  clear hc1 c6;go_wp2_with fail;go_ret;rw[HEND.out];exact⟨rfl,⟨S,sv,ss,HH.out.nil HC1.out,HN.out.ne,Nat.le_refl _⟩,HC1.out.weak (fun _ h=>h.elim)⟩
 ·have HST:Hid (dropLg d { g with start:=max g.start tg } = R):=by rw[←HR.out];exact (if_neg (by omega)).symm
  have HS1:=Lib.hid (HH.out.nil hc1)
  have hb:=HS1.out.c
  have c4:w1.cell? ⟨l,4,none⟩=some (.int .i64 g.start):=hb.cell (j:=4) rfl
  have f4:=hb.free 4
  clear hb hc1 c6;have key:∀ m:Int,max g.start tg=m→Hid (Box (w1.setCell ⟨l,4,none⟩ (.int .i64 m)) l (({ g with start:=m }:Lg).cells p sv) 99∧Calls Tryz.prog 64 #[.pointer (some ⟨l,0,none⟩)] (w1.setCell ⟨l,4,none⟩ (.int .i64 m)) fun e w'=>e = .returned (errD R.1)∧(∃ S' sv' ss',LgS B w' p l S' sv' ss' R.2.1 R.2.2∧0<ss'.length∧ss'.length≤ss.length)∧Chg (Off B) w w'):=fun m hm=>by
   have hbm:Box (w1.setCell ⟨l,4,none⟩ (.int .i64 m)) l (({ g with start:=m }:Lg).cells p sv) 99:=HS1.out.c.set 4 (.int .i64 m)
   have hcc:=(Chg.refl (fun k=>k=l) w1).setCell (p:=⟨l,4,none⟩) (.inl rfl) (.int .i64 m)
   have hs2:=HS1.out.cells (g':={ g with start:=m }) hcc hbm rfl
   have hw:Chg (Off B) w (w1.setCell ⟨l,4,none⟩ (.int .i64 m)):=(HC1.out.weak (S':=Off B) (fun _ h=>h.elim)).trans (HS1.out.offL hcc) (fun _ h=>.inl h)
   refine⟨hbm,(ldrop_any hs2 HN.out.ne hfew HNM.out (HN.out.hand.chg hw (fun hn=>hn HN.out.hb)) HN.out.hb).mono ?_⟩
   have h9:=HST.out
   rw[hm] at h9;rw[h9];rintro e w' ⟨he,h3,h4⟩
   exact⟨he,h3,hw.trans h4 (fun _ h=>.inl h)⟩
  have HK:=key _ rfl
  clear key;go_wp2_with fail;refine HK.out.2.mono ?_
  rintro e w3 ⟨rfl,h3,h4⟩
  have H3:=Lib.hid h3
  have H4:=Lib.hid h4
  clear h3 h4;go_wp2_with fail;go_ret;exact⟨rfl,H3.out,H4.out⟩
theorem lsafe_any {w:World}{l:Nat}{c0 c1 c2 c3 c4 c6:Value}{n:Int}(hb:Box w l [c0,c1,c2,c3,c4,.int .i64 n,c6] 99) :
  Calls Tryz.prog 44 #[.pointer (some ⟨l,0,none⟩)] w fun e w'=>e = .returned (.int .i64 n)∧Chg Nil w w':=by
 have c5:=hb.cell (j:=5) rfl
 clear hb;go_enter Tryz.func44,Tryz.ntmps44
 go_wp2_with fail;go_ret;exact⟨rfl,Chg.refl _ _⟩
open Go.Lib
theorem at_keeps {d:Dk}{x:Nm}{g:Fl→Nat×(Dk→Dk)}(h:d.Ok)(hg:∀ f,d.find x=some f→((g f).2 d.step).Ok):(d.at x g).2.Ok:=by
 unfold Dk.at;by_cases hd:d.does=false
 ·rw[if_pos hd];exact h
 rw[if_neg hd]
 cases hf:d.find x with
 | none=>exact h.step
 | some f=>exact hg f hf
theorem add_keeps {d:Dk}(h:d.Ok) (x:Nm) (b:List UInt8):(d.add x b).2.Ok:=at_keeps h fun f hf=>by
 by_cases hr:d.room<d.used+b.length
 ·simp only[if_pos hr];exact h.step
 ·simp only[if_neg hr]
  have hs:f.safe≤f.bytes.length:=h.safe _ (lookup_some hf)
  refine h.step.turn (g:=f) hf (by show f.safe≤(f.bytes++b).length;rw[List.length_append];omega) ?_
  show d.used+(f.bytes++b).length≤d.room+f.bytes.length
  rw[List.length_append];omega
theorem sync_keeps {d:Dk}(h:d.Ok) (x:Nm):(d.sync x).2.Ok:=at_keeps h fun f hf=>h.step.turn (g:=f) hf (Nat.le_refl _) (Nat.add_le_add_right h.fits _)
theorem remove_keeps {d:Dk}(h:d.Ok) (x:Nm):(d.remove x).2.Ok:=at_keeps h fun f hf=>h.step.del x
theorem rename_keeps {d:Dk}(h:d.Ok) (x y:Nm):(d.rename x y).2.Ok:=at_keeps h fun f hf=>by
 by_cases hr:dkName y=false
 ·simp only[if_pos hr];exact h.step
 ·simp only[if_neg hr]
  exact h.step.renamed hf (by simpa using hr)
theorem addSg_keeps {d:Dk}(h:d.Ok) (g:Sg) (base en:Int) (rs:List Rec):(addSg d g base en rs).2.1.Ok:=by
 unfold addSg;split
 ·exact h
 ·split
  ·exact h
  ·split
   ·exact add_keeps h _ _
   ·exact add_keeps h _ _
theorem rew2_keeps {g:Sg}:∀ (l:List Bt) {d:Dk} (gt:Sg),d.Ok→(rew2 d g gt l).2.1.Ok
 | [],d,gt,h=>by
  show (rew3 d g gt).2.1.Ok
  unfold rew3;split
  ·unfold rew4;split
   ·exact rename_keeps (sync_keeps h _) _ _
   ·exact remove_keeps (rename_keeps (sync_keeps h _) _ _) _
  ·exact remove_keeps (sync_keeps h _) _
 | b::l,d,gt,h=>by
  have e1:rew2 d g gt (b::l)=if (addSg d gt b.base b.en b.rs).1=0 then rew2 (addSg d gt b.base b.en b.rs).2.1 g (addSg d gt b.base b.en b.rs).2.2 l else ((addSg d gt b.base b.en b.rs).1,((addSg d gt b.base b.en b.rs).2.1.remove gt.name).2,g):=rfl
  rw[e1];split
  ·exact rew2_keeps l _ (addSg_keeps h _ _ _ _)
  ·exact remove_keeps (addSg_keeps h _ _ _ _) _
theorem rew_keeps {d:Dk}(h:d.Ok) (g:Sg) (nm2:Nm) (l:List Bt):(rewL d g nm2 l).2.1.Ok:=by
 have h0:(rew0 d nm2).2.Ok:=by
  unfold rew0;split
  ·exact remove_keeps h _
  ·exact h
 unfold rewL;split
 ·unfold rew1;split
  ·exact rew2_keeps l _ (h0.make _)
  ·exact h0.make _
 ·exact h0
inductive Partly (p:Rec→Bool):List SgB→List SgB→Prop
 | nil:Partly p [] []
 | same {x:SgB}{xs zs:List SgB}:Partly p xs zs→Partly p (x::xs) (x::zs)
 | less {x y:SgB}{xs zs:List SgB}:y.1.base=x.1.base→y.2=x.2.map (Bt.keep p)→Partly p xs zs→Partly p (x::xs) (y::zs)
theorem Partly.refl (p:Rec→Bool):∀ xs,Partly p xs xs
 | []=>.nil
 | _::xs=>.same (Partly.refl p xs)
def Dk.free (d:Dk):Dk:={ d with left:=-1 }
theorem free_step (d:Dk):d.free.step=d.step.free:=by
 unfold Dk.free Dk.step;simp only[Dk.mk.injEq,true_and]
 rfl
theorem free_does (d:Dk):d.free.does=true:=rfl
theorem Dk.Ok.free {d:Dk}(h:d.Ok):d.free.Ok:=⟨h.nodup,h.safe,h.fits,h.room,h.few,⟨by show (-1:Int)≤-1;omega,by show (-1:Int)≤_;omega⟩,h.short⟩
theorem at_free {d:Dk}{x:Nm}{g:Fl→Nat×(Dk→Dk)}(hg:∀ f e,((g f).2 e).free=(g f).2 e.free)(h:(d.at x g).1≠14):d.free.at x g=((d.at x g).1,(d.at x g).2.free):=by
 unfold Dk.at at h ⊢
 by_cases hd:d.does=false
 ·rw[if_pos hd] at h
  exact absurd rfl h
 ·rw[if_neg hd,if_neg (by rw[free_does];simp)]
  show (match d.find x with | none=>(7,d.free.step) | some f=>((g f).1,(g f).2 d.free.step))=_
  cases d.find x with
  | none=>rw[free_step]
  | some f=>
   rw[free_step];show ((g f).1,(g f).2 d.step.free)=((g f).1,((g f).2 d.step).free)
   rw[hg]
theorem make_free {d:Dk}{x:Nm}(h:(d.make x).1≠14):d.free.make x=((d.make x).1,(d.make x).2.free):=by
 unfold Dk.make at h ⊢
 by_cases hd:d.does=false
 ·rw[if_pos hd] at h
  exact absurd rfl h
 ·rw[if_neg hd,if_neg (by rw[free_does];simp),free_step]
  show (if dkName x=false then (5,d.step.free) else if (d.find x).isSome=true then (9,d.step.free) else if d.fs.length=200 then (4,d.step.free) else (0,d.step.free.put x ⟨[],0⟩))=_
  split
  ·rfl
  ·split
   ·rfl
   ·split
    ·rfl
    ·rfl
theorem add_free {d:Dk}{x:Nm}{b:List UInt8}(h:(d.add x b).1≠14):d.free.add x b=((d.add x b).1,(d.add x b).2.free):=by
 refine at_free (d:=d) (x:=x) (g:=fun f=>if d.room<d.used+b.length then (12,id) else (0,fun d=>d.turn x ⟨f.bytes++b,f.safe⟩)) (fun f e=>?_) h
 by_cases hr:d.room<d.used+b.length
 ·simp only[if_pos hr];rfl
 ·simp only[if_neg hr];rfl
theorem sync_free {d:Dk}{x:Nm}(h:(d.sync x).1≠14):d.free.sync x=((d.sync x).1,(d.sync x).2.free):=at_free (fun f e=>rfl) h
theorem remove_free {d:Dk}{x:Nm}(h:(d.remove x).1≠14):d.free.remove x=((d.remove x).1,(d.remove x).2.free):=at_free (fun f e=>rfl) h
theorem rename_free {d:Dk}{x y:Nm}(h:(d.rename x y).1≠14):d.free.rename x y=((d.rename x y).1,(d.rename x y).2.free):=by
 refine at_free (fun f e=>?_) h
 by_cases hr:dkName y=false
 ·simp only[if_pos hr];rfl
 ·simp only[if_neg hr];rfl
theorem addSg_free {d:Dk}{g:Sg}{base en:Int}{rs:List Rec}(h:(addSg d g base en rs).1≠14):addSg d.free g base en rs=((addSg d g base en rs).1,(addSg d g base en rs).2.1.free,(addSg d g base en rs).2.2):=by
 unfold addSg at h ⊢
 split
 ·rfl
 ·rw[if_neg (by assumption)] at h
  split
  ·rfl
  ·rw[if_neg (by assumption)] at h
   have h14:(d.add g.name (encAll base en rs)).1≠14:=by
    intro e;rw[e] at h;rw[if_neg (by decide)] at h
    exact h rfl
   rw[add_free h14]
   split
   ·rfl
   ·rfl
def SameF (a b:Nat×Dk×Sg):Prop:=a.1≠14→b.1=a.1∧(a.1=0→b.2.1=a.2.1.free∧b.2.2=a.2.2)
theorem rew4_free (d:Dk) (g gt:Sg):SameF (rew4 d g gt) (rew4 d.free g gt):=by
 intro h;unfold rew4 at h ⊢
 by_cases h1:(d.rename gt.name g.name).1=0
 ·have h14:(d.rename gt.name g.name).1≠14:=by rw[h1];decide
  rw[rename_free h14]
  simp only[if_pos h1]
  exact⟨trivial,fun _=>⟨trivial,trivial⟩⟩
 ·rw[if_neg h1] at h
  have h14:(d.rename gt.name g.name).1≠14:=h
  rw[rename_free h14]
  simp only[if_neg h1]
  exact⟨trivial,fun h0=>absurd h0 h1⟩
theorem rew3_free (d:Dk) (g gt:Sg):SameF (rew3 d g gt) (rew3 d.free g gt):=by
 intro h;unfold rew3 at h ⊢
 by_cases h1:(d.sync gt.name).1=0
 ·have h14:(d.sync gt.name).1≠14:=by rw[h1];decide
  rw[if_pos h1] at h
  rw[sync_free h14]
  simp only[if_pos h1]
  exact rew4_free _ g gt h
 ·rw[if_neg h1] at h
  have h14:(d.sync gt.name).1≠14:=h
  rw[sync_free h14]
  simp only[if_neg h1]
  exact⟨trivial,fun h0=>absurd h0 h1⟩
theorem rew2_free (g:Sg):∀ (l:List Bt) (d:Dk) (gt:Sg),SameF (rew2 d g gt l) (rew2 d.free g gt l)
 | [],d,gt=>rew3_free d g gt
 | b::l,d,gt=>by
  intro h;have e1:∀ d,rew2 d g gt (b::l)=if (addSg d gt b.base b.en b.rs).1=0 then rew2 (addSg d gt b.base b.en b.rs).2.1 g (addSg d gt b.base b.en b.rs).2.2 l else ((addSg d gt b.base b.en b.rs).1,((addSg d gt b.base b.en b.rs).2.1.remove gt.name).2,g):=fun _=>rfl
  rw[e1] at h ⊢
  rw[e1];by_cases h1:(addSg d gt b.base b.en b.rs).1=0
  ·have h14:(addSg d gt b.base b.en b.rs).1≠14:=by rw[h1];decide
   rw[if_pos h1] at h
   rw[addSg_free h14]
   simp only[if_pos h1]
   exact rew2_free g l _ _ h
  ·rw[if_neg h1] at h
   have h14:(addSg d gt b.base b.en b.rs).1≠14:=h
   rw[addSg_free h14]
   simp only[if_neg h1]
   exact⟨trivial,fun h0=>absurd h0 h1⟩
theorem rewL_free (d:Dk) (g:Sg) (nm:Nm) (l:List Bt):SameF (rewL d g nm l) (rewL d.free g nm l):=by
 intro h;have h0:(rew0 d nm).1≠14→rew0 d.free nm=((rew0 d nm).1,(rew0 d nm).2.free):=by
  intro h;have hs:d.free.size nm=d.size nm:=rfl
  unfold rew0 at h ⊢
  rw[hs];by_cases hz:0≤d.size nm
  ·rw[if_pos hz] at h
   simp only[if_pos hz]
   exact remove_free h
  ·simp only[if_neg hz]
 unfold rewL at h ⊢
 by_cases h1:(rew0 d nm).1=0
 ·rw[if_pos h1] at h
  rw[h0 (by rw[h1];decide)]
  simp only[if_pos h1]
  unfold rew1 at h ⊢
  by_cases h2:((rew0 d nm).2.make nm).1=0
  ·rw[if_pos h2] at h
   rw[make_free (by rw[h2];decide)]
   simp only[if_pos h2]
   exact rew2_free g l _ _ h
  ·rw[if_neg h2] at h
   rw[make_free h]
   simp only[if_neg h2]
   exact⟨trivial,fun h0=>absurd h0 h2⟩
 ·rw[if_neg h1] at h
  rw[h0 h]
  simp only[if_neg h1]
  exact⟨trivial,fun h0=>absurd h0 h1⟩
def AllSafe (d:Dk) (x:SgB):Prop:=d.find x.1.name=some ⟨batBs x.2,(batBs x.2).length⟩
def SafeTo (d:Dk) (z:SgB) (s:Int):Prop:=∃ sf m,d.find z.1.name=some ⟨batBs z.2,sf⟩∧m≤z.2.length∧(batBs (z.2.take m)).length≤sf∧s≤lastEnd z.1.base (z.2.take m)
structure Sfe (d:Dk) (ys:List SgB) (z:SgB) (s:Int):Prop where
 all:∀ y∈ys,AllSafe d y
 last:SafeTo d z s
theorem Sfe.same {d d':Dk}{ys:List SgB}{z:SgB}{s:Int}(h:Sfe d ys z s)(hf:∀ x∈ys++[z],d'.find x.1.name=d.find x.1.name):Sfe d' ys z s:=by
 refine⟨fun y hy=>?_,?_⟩
 ·unfold AllSafe;rw[hf y (List.mem_append_left _ hy)]
  exact h.all y hy
 ·obtain⟨sf,m,h1,h2⟩:=h.last
  exact⟨sf,m,by rw[hf z (by simp)];exact h1,h2⟩
theorem AllSafe.to {d:Dk}{z:SgB}{s:Int}(h:AllSafe d z)(hs:s≤lastEnd z.1.base z.2):SafeTo d z s:=
 ⟨_,z.2.length,h,Nat.le_refl _,by rw[List.take_length];exact Nat.le_refl _,by rw[List.take_length];exact hs⟩
structure Up0 (d:Dk) (g:Lg) (ys:List SgB) (z:SgB):Prop where
 ok:LgOk d g (ys++[z])
 up:g.down=false
 sf:Sfe d ys z g.safe
def OnlyF (d:Dk) (xs:List SgB):Prop:=∀ y,(d.find y).isSome=true→∃ x∈xs,y=x.1.name
def PreF (d:Dk) (dir:Nm):Prop:=∀ y,(d.find y).isSome=true→(dir++[47]).isPrefixOf y=true
theorem seg_pre (dir:Nm) (n:Nat):(dir++[47]).isPrefixOf (segName dir n)=true:=by
 rw[segName_eq];simp[List.isPrefixOf_iff_prefix]
theorem OnlyF.pre {d:Dk}{g:Lg}{xs:List SgB}(h:OnlyF d xs)(hk:LgOk d g xs):PreF d g.dir:=fun y hy=>by
 obtain⟨x,hx,rfl⟩:=h y hy
 rw[(hk.each x hx).nm]
 exact seg_pre _ _
theorem LgOk.lastZ {d:Dk}{g:Lg}{ys:List SgB}{z:SgB}(h:LgOk d g (ys++[z])):g.last=z.1∧g.stop=z.1.next∧g.segs=ys.map (·.1)++[z.1]:=by
 obtain⟨ys2,x2,he2,hlast,hsg⟩:=h.lastAt
 obtain⟨rfl,hx2⟩:=List.append_inj' he2 rfl
 obtain rfl:=List.cons.inj hx2 |>.1
 exact⟨hlast,by unfold Lg.stop;rw[hlast],hsg⟩
theorem LgOk.unfree {d:Dk}{g:Lg}{xs:List SgB}(h:LgOk d.free g xs)(hd:d.Ok):LgOk d g xs:=
 ⟨h.segs,h.ne,fun x hx=>(h.each x hx).other rfl,h.line,h.only,h.kn,hd,h.lo,h.hi⟩
theorem LgOk.freed {d:Dk}{g:Lg}{xs:List SgB}(h:LgOk d g xs):LgOk d.free g xs:=
 ⟨h.segs,h.ne,fun x hx=>(h.each x hx).other rfl,h.line,h.only,h.kn,h.ok.free,h.lo,h.hi⟩
theorem at_14 {d:Dk}{x:Nm}{g:Fl→Nat×(Dk→Dk)}(hg:∀ f,(g f).1≠14)(h:(d.at x g).1=14):d.at x g=(14,d):=by
 unfold Dk.at at h ⊢
 by_cases hd:d.does=false
 ·rw[if_pos hd]
 ·rw[if_neg hd] at h
  cases hf:d.find x with
  | none=>rw[hf] at h;cases h
  | some f=>rw[hf] at h;exact absurd h (hg f)
theorem make_14 {d:Dk}{x:Nm}(h:(d.make x).1=14):d.make x=(14,d):=by
 unfold Dk.make at h ⊢
 by_cases hd:d.does=false
 ·rw[if_pos hd]
 ·rw[if_neg hd] at h
  split at h
  ·cases h
  ·split at h
   ·cases h
   ·split at h<;>cases h
theorem sync_14 {d:Dk}{x:Nm}(h:(d.sync x).1=14):d.sync x=(14,d):=at_14 (fun f=>by simp) h
theorem remove_14 {d:Dk}{x:Nm}(h:(d.remove x).1=14):d.remove x=(14,d):=at_14 (fun f=>by simp) h
theorem add_14 {d:Dk}{x:Nm}{b:List UInt8}(h:(d.add x b).1=14):d.add x b=(14,d):=at_14 (fun f=>by by_cases hr:d.room<d.used+b.length<;>simp[hr]) h
theorem cut_14 {d:Dk}{x:Nm}{n:Int}(h:(d.cut x n).1=14):d.cut x n=(14,d):=at_14 (fun f=>by by_cases hr:n<0∨(f.bytes.length:Int)<n<;>simp[hr]) h
def EndsIn (z:SgB) (ws:Int) (ends:List Int):Prop:=∀ m,m≤z.2.length→ws≤lastEnd z.1.base (z.2.take m)→lastEnd z.1.base (z.2.take m)∈ends
def headBase (xs:List SgB):Int:=match xs with | x::_=>x.1.base | []=>0
theorem flush_up {d:Dk}{g:Lg}{ys:List SgB}{z:SgB}(h:Up0 d g ys z) :
  flushLg d g=(14,d,{ g with down:=true })∨
  ∃ d',flushLg d g=(0,d',{ g with safe:=g.stop })∧Up0 d' { g with safe:=g.stop } ys z∧AllSafe d' z∧d'.used=d.used∧d'.fs.length=d.fs.length∧d'.room=d.room∧(∀ y,(d'.find y).isSome=(d.find y).isSome):=by
 obtain⟨hlast,hstop,_⟩:=h.ok.lastZ
 have hnd:¬g.down=true:=by rw[h.up];simp
 by_cases h14:(d.sync g.last.name).1=14
 ·left
  unfold flushLg;rw[if_neg hnd,sync_14 h14,if_neg (by simp)]
  rfl
 ·right
  obtain⟨d0,e1,e2,e3,e4,e5⟩:=flush_ok h.ok.freed rfl h.up
  have hfr:=sync_free h14
  have e1':=e1
  unfold flushLg at e1'
  rw[if_neg hnd,hfr] at e1'
  have h0:(d.sync g.last.name).1=0:=by
   by_cases h0:(d.sync g.last.name).1=0
   ·exact h0
   ·rw[if_neg h0] at e1'
    exact absurd (Prod.mk.inj e1').1 h0
  rw[if_pos h0] at e1'
  have ed:(d.sync g.last.name).2.free=d0:=(Prod.mk.inj (Prod.mk.inj e1').2).1
  subst ed;have hok':(d.sync g.last.name).2.Ok:=sync_keeps h.ok.ok _
  obtain⟨f,hf,hd⟩:=sync_done h0
  have hz:=h.ok.each z (by simp)
  obtain⟨sf,hzf⟩:=hz.fl
  rw[hlast,hzf] at hf;obtain rfl:=Option.some.inj hf
  have hfd:∀ y,(d.sync g.last.name).2.find y=if y=z.1.name then some ⟨batBs z.2,(batBs z.2).length⟩ else d.find y:=by
   intro y;rw[hd,find_turn,step_find,hlast];by_cases e:y=z.1.name
   ·rw[if_pos e,if_pos e,e,hzf]
    rfl
   ·rw[if_neg e,if_neg e]
  have has:AllSafe (d.sync g.last.name).2 z:=by unfold AllSafe;rw[hfd,if_pos rfl]
  refine⟨(d.sync g.last.name).2,?_,⟨e2.unfree hok',h.up,⟨fun y hy=>?_,has.to ?_⟩⟩,has,e4,e5,?_,fun y=>?_⟩
  ·unfold flushLg;rw[if_neg hnd,if_pos h0]
  ·unfold AllSafe;rw[hfd,if_neg (h.ok.names y hy)]
   exact h.sf.all y hy
  ·show g.stop≤_
   rw[hstop,hz.of.next];exact Int.le_refl _
  ·rw[hd];rfl
  ·rw[hfd];split
   ·next e=>rw[e,hzf];rfl
   ·rfl
theorem more_up {d:Dk}{g:Lg}{ys:List SgB}{z:SgB}(h:Up0 d g ys z)(hz:AllSafe d z)(hs:g.safe=g.stop)(hx:z.2≠[])(hf:d.fs.length<200) :
  moreLg d g=(14,d,g)∨
  ∃ d' s,moreLg d g=(0,d',{ g with segs:=g.segs++[s] })∧Up0 d' { g with segs:=g.segs++[s] } (ys++[z]) (s,[])∧s.base=g.stop∧s.next=g.stop∧d'.used=d.used∧d'.fs.length=d.fs.length+1∧d'.room=d.room∧(∀ y,(d'.find y).isSome=true→(d.find y).isSome=true∨y=s.name):=by
 obtain⟨hlast,hstop,_⟩:=h.ok.lastZ
 by_cases h14:(d.make (segName g.dir g.stop.toNat)).1=14
 ·left
  unfold moreLg;rw[make_14 h14,if_neg (by simp)]
 ·right
  obtain⟨d0,s0,e1,e2,e3,e4,e5,e6,_⟩:=more_ok h.ok.freed hx rfl hf
  have hfr:=make_free h14
  have e1':=e1
  unfold moreLg at e1'
  rw[hfr] at e1';have h0:(d.make (segName g.dir g.stop.toNat)).1=0:=by
   by_cases h0:(d.make (segName g.dir g.stop.toNat)).1=0
   ·exact h0
   ·rw[if_neg h0] at e1'
    exact absurd (Prod.mk.inj e1').1 h0
  rw[if_pos h0] at e1'
  have ed:(d.make (segName g.dir g.stop.toNat)).2.free=d0:=(Prod.mk.inj (Prod.mk.inj e1').2).1
  have es:s0=⟨segName g.dir g.stop.toNat,g.stop,[],0⟩:=by
   have h1:=congrArg Lg.segs (Prod.mk.inj (Prod.mk.inj e1').2).2
   have h2:=List.append_cancel_left h1
   exact (List.cons.inj h2).1.symm
  subst ed es;have hok':(d.make (segName g.dir g.stop.toNat)).2.Ok:=h.ok.ok.make _
  obtain⟨hn,_,hd⟩:=make_done h0
  have hfd:∀ y,(d.make (segName g.dir g.stop.toNat)).2.find y=if y=segName g.dir g.stop.toNat then some ⟨[],0⟩ else d.find y:=fun y=>by rw[hd,find_put,step_find]
  have hne:∀ x∈ys++[z],x.1.name≠segName g.dir g.stop.toNat:=fun x hx e=>by
   obtain⟨sf,hs⟩:=(h.ok.each x hx).fl
   rw[e,hn] at hs;cases hs
  refine⟨(d.make (segName g.dir g.stop.toNat)).2,_,?_,⟨e2.unfree hok',h.up,⟨fun y hy=>?_,0,0,?_,Nat.le_refl _,Nat.le_refl _,?_⟩⟩,rfl,rfl,e4,e5,?_,fun y hy=>?_⟩
  ·unfold moreLg;rw[if_pos h0]
  ·unfold AllSafe;rw[hfd,if_neg (hne y hy)]
   rcases List.mem_append.1 hy with hy | hy
   ·exact h.sf.all y hy
   ·rw[List.mem_singleton.1 hy];exact hz
  ·rw[hfd];exact if_pos rfl
  ·show g.safe≤g.stop
   rw[hs];exact Int.le_refl _
  ·rw[hd];rfl
  ·rw[hfd] at hy;split at hy
   ·next e=>exact .inr e
   ·exact .inl hy
theorem noted_next (s:Sg) (base en:Int) (rs:List Rec) (n:Nat):(s.noted base en rs n).next=en:=by
 unfold Sg.noted Sg.next;simp
theorem put_up {d:Dk}{g:Lg}{ys:List SgB}{z:SgB}(h:Up0 d g ys z) {b:Bt}(hb:b.Ok)(hbb:b.base=g.stop)(hroom:d.used+b.bytes.length≤d.room) :
  (∃ g',putLg d g b=(14,d,g')∧g'.down=true∧g'.segs.length=g.segs.length)∨
  ∃ d' s,putLg d g b=(0,d',{ g with segs:=g.segs.set (g.segs.length-1) s })∧Up0 d' { g with segs:=g.segs.set (g.segs.length-1) s } ys (s,z.2++[b])∧s.base=z.1.base∧s.name=z.1.name∧s.next=b.en∧d'.used=d.used+b.bytes.length∧d'.fs.length=d.fs.length∧d'.room=d.room∧(∀ y,(d'.find y).isSome=(d.find y).isSome):=by
 obtain⟨hlast,hstop,hsg⟩:=h.ok.lastZ
 have hz:=h.ok.each z (by simp)
 have hnx:¬b.base<g.last.next:=by rw[hbb];unfold Lg.stop;omega
 have hadd:addSg d g.last b.base b.en b.rs=if (d.add g.last.name b.bytes).1=0 then (0,(d.add g.last.name b.bytes).2,g.last.noted b.base b.en b.rs b.bytes.length) else ((d.add g.last.name b.bytes).1,(d.add g.last.name b.bytes).2,g.last):=by
  unfold addSg;rw[if_neg (by rw[hb.err];simp),if_neg hnx]
  rfl
 by_cases h14:(d.add g.last.name b.bytes).1=14
 ·left
  refine⟨({ g with segs:=g.segs.set (g.segs.length-1) g.last }:Lg).fail 14,?_,rfl,?_⟩
  ·unfold putLg;simp only
   have h1:addSg d g.last b.base b.en b.rs=(14,d,g.last):=by rw[hadd,add_14 h14];rfl
   rw[h1];rfl
  ·show (g.segs.set _ _).length=_
   rw[List.length_set]
 ·right
  obtain⟨d0,s0,e1,e2,e3,e4,e5,e6⟩:=put_ok h.ok.freed rfl hb hbb hroom
  have hfr:=add_free h14
  have haddf:addSg d.free g.last b.base b.en b.rs=if (d.add g.last.name b.bytes).1=0 then (0,(d.add g.last.name b.bytes).2.free,g.last.noted b.base b.en b.rs b.bytes.length) else ((d.add g.last.name b.bytes).1,(d.add g.last.name b.bytes).2.free,g.last):=by
   unfold addSg;rw[if_neg (by rw[hb.err];simp),if_neg hnx]
   show (if (d.free.add g.last.name b.bytes).1=0 then _ else _)=_
   rw[show encAll b.base b.en b.rs=b.bytes from rfl,hfr]
  have e1':=e1
  unfold putLg at e1'
  simp only at e1'
  rw[haddf] at e1';have h0:(d.add g.last.name b.bytes).1=0:=by
   by_cases h0:(d.add g.last.name b.bytes).1=0
   ·exact h0
   ·rw[if_neg h0] at e1'
    simp only at e1'
    rw[if_neg h0] at e1'
    exact absurd (Prod.mk.inj e1').1 h0
  rw[if_pos h0] at e1'
  simp only[if_true] at e1'
  have ed:(d.add g.last.name b.bytes).2.free=d0:=(Prod.mk.inj (Prod.mk.inj e1').2).1
  have es:g.last.noted b.base b.en b.rs b.bytes.length=s0:=by
   have h1:=congrArg Lg.segs (Prod.mk.inj (Prod.mk.inj e1').2).2
   simp only at h1
   rw[hsg] at h1;simpa using h1
  subst ed es;have hok':(d.add g.last.name b.bytes).2.Ok:=add_keeps h.ok.ok _ _
  obtain⟨f,hf,hd⟩:=add_done h0
  obtain⟨sf,m,k1,k2,k3,k4⟩:=h.sf.last
  rw[hlast,k1] at hf;obtain rfl:=Option.some.inj hf
  have hfd:∀ y,(d.add g.last.name b.bytes).2.find y=if y=z.1.name then some ⟨batBs z.2++b.bytes,sf⟩ else d.find y:=by
   intro y;rw[hd,find_turn,step_find,hlast];by_cases e:y=z.1.name
   ·rw[if_pos e,if_pos e,e,k1]
    rfl
   ·rw[if_neg e,if_neg e]
  have hnm:(g.last.noted b.base b.en b.rs b.bytes.length).name=z.1.name:=by rw[hlast];rfl
  have hbs:(g.last.noted b.base b.en b.rs b.bytes.length).base=z.1.base:=by rw[hlast];rfl
  refine⟨(d.add g.last.name b.bytes).2,_,?_,⟨e2.unfree hok',h.up,⟨fun y hy=>?_,sf,m,?_,?_,?_,?_⟩⟩,hbs,hnm,noted_next _ _ _ _ _,e4,e5,?_,fun y=>?_⟩
  ·unfold putLg;simp only
   rw[hadd,if_pos h0]
   rfl
  ·unfold AllSafe;rw[hfd,if_neg (h.ok.names y hy)]
   exact h.sf.all y hy
  ·show (d.add g.last.name b.bytes).2.find (g.last.noted b.base b.en b.rs b.bytes.length).name=_
   rw[hfd,if_pos hnm,batBs_snoc]
  ·show m≤(z.2++[b]).length
   rw[List.length_append];omega
  ·show (batBs ((z.2++[b]).take m)).length≤sf
   rw[List.take_append_of_le_length k2];exact k3
  ·show g.safe≤lastEnd (g.last.noted b.base b.en b.rs b.bytes.length).base ((z.2++[b]).take m)
   rw[List.take_append_of_le_length k2,hbs];exact k4
  ·rw[hd];rfl
  ·rw[hfd];split
   ·next e=>rw[e,k1];rfl
   ·rfl
structure AddNo (d:Dk) (g:Lg) (ys:List SgB) (z:SgB) (d':Dk) (g':Lg) (g2:Lg) (ys':List SgB) (z':SgB):Prop where
 down:g'.down=true
 up:Up0 d' g2 ys' z'
 dir:g2.dir=g.dir
 safe:g.safe≤g2.safe
 all:allBts (ys'++[z'])=allBts (ys++[z])
 stop:g2.stop=g.stop
 head:headBase (ys'++[z'])=headBase (ys++[z])
 ends:∀ ws ends,EndsIn z ws ends→EndsIn z' ws ends
 only:OnlyF d (ys++[z])→OnlyF d' (ys'++[z'])
 len:g'.segs.length≤g.segs.length+1
 room:d'.room=d.room
 segs:ys'.length≤ys.length+1
structure AddYes (d:Dk) (g:Lg) (ys:List SgB) (z:SgB) (b:Bt) (d':Dk) (g':Lg) (ys':List SgB) (z':SgB):Prop where
 up:Up0 d' g' ys' z'
 dir:g'.dir=g.dir
 most:g'.most=g.most
 start:g'.start=g.start
 safe:g.safe≤g'.safe
 all:allBts (ys'++[z'])=allBts (ys++[z])++[b]
 stop:g'.stop=b.en
 head:headBase (ys'++[z'])=headBase (ys++[z])
 ends:∀ ws ends,EndsIn z ws ends→EndsIn z' ws (ends++[b.en])
 only:OnlyF d (ys++[z])→OnlyF d' (ys'++[z'])
 used:d'.used=d.used+b.bytes.length
 files:d'.fs.length≤d.fs.length+1
 room:d'.room=d.room
 segs:ys'.length≤ys.length+1
theorem Up0.safe_le {d:Dk}{g:Lg}{ys:List SgB}{z:SgB}(h:Up0 d g ys z):g.safe≤g.stop:=by
 obtain⟨sf,m,_,k2,_,k4⟩:=h.sf.last
 have hz:=h.ok.each z (by simp)
 rw[h.ok.lastZ.2.1,hz.of.next];have hok:=hz.of.ok
 have hup:=hz.of.up
 have h1:lastEnd z.1.base z.2=lastEnd (lastEnd z.1.base (z.2.take m)) (z.2.drop m):=by
  have key:∀ (l r:List Bt) (n:Int),lastEnd n (l++r)=lastEnd (lastEnd n l) r:=by
   intro l;induction l with
   | nil=>intro r n;rfl
   | cons a l ih=>intro r n;exact ih r a.en
  rw[←key,List.take_append_drop]
 have h2:rising (lastEnd z.1.base (z.2.take m)) (z.2.drop m):=by
  have key:∀ (l r:List Bt) (n:Int),rising n (l++r)→rising (lastEnd n l) r:=by
   intro l;induction l with
   | nil=>intro r n h;exact h
   | cons a l ih=>intro r n h;exact ih r a.en h.2
  exact key _ _ _ (by rw[List.take_append_drop];exact hup)
 have h3:=(lastEnd_le (fun b hb=>hok b (List.mem_of_mem_drop hb)) h2).1
 omega
theorem head_snoc (ys:List SgB) (z z' w:SgB)(h:z'.1.base=z.1.base):headBase (ys++[z'])=headBase (ys++[z])∧headBase (ys++[z]++[w])=headBase (ys++[z]):=by
 cases ys with
 | nil=>exact⟨h,rfl⟩
 | cons a r=>exact⟨rfl,rfl⟩
theorem EndsIn.snoc {z z':SgB}{b:Bt}{ws:Int}{ends:List Int}(h:EndsIn z ws ends)(h1:z'.2=z.2++[b])(h2:z'.1.base=z.1.base):EndsIn z' ws (ends++[b.en]):=by
 intro m hm hw;rw[h1,h2] at hw ⊢
 rw[h1,List.length_append,List.length_singleton] at hm;by_cases hml:m≤z.2.length
 ·rw[List.take_append_of_le_length hml] at hw ⊢
  exact List.mem_append_left _ (h m hml hw)
 ·obtain rfl:m=z.2.length+1:=by omega
  rw[List.take_of_length_le (by simp),lastEnd_snoc]
  simp
theorem EndsIn.fresh {z z':SgB}{ws:Int}{ends:List Int}(h:EndsIn z ws ends)(hz:SgOf z.1 z.2)(h1:z'.2=[])(h2:z'.1.base=z.1.next):EndsIn z' ws ends:=by
 intro m hm hw;rw[h1] at hw ⊢
 rw[List.take_nil] at hw ⊢
 have hw:ws≤z'.1.base:=hw
 show z'.1.base∈ends
 have h3:=h z.2.length (Nat.le_refl _)
 rw[List.take_length,←hz.next,←h2] at h3;exact h3 hw
theorem add_up {d:Dk}{g:Lg}{ys:List SgB}{z:SgB}(h:Up0 d g ys z) (rs:List Rec)(hrs:∀ r∈(g.batch rs).rs,Rec.Ok r)(hf:d.fs.length<200)(hroom:d.used+6000≤d.room) :
  (encErr (g.batch rs).base (g.batch rs).en (g.batch rs).rs≠0→addLg d g rs=(encErr (g.batch rs).base (g.batch rs).en (g.batch rs).rs,d,g))∧
  (encErr (g.batch rs).base (g.batch rs).en (g.batch rs).rs=0→
   (∃ d' g' g2 ys' z',addLg d g rs=(14,d',g')∧AddNo d g ys z d' g' g2 ys' z')∨
   (∃ d' g' ys' z',addLg d g rs=(0,d',g')∧AddYes d g ys z (g.batch rs) d' g' ys' z')):=by
 have hnd:¬g.down=true:=by rw[h.up];simp
 refine⟨fun he=>by unfold addLg;rw[if_neg hnd,if_pos he],fun he=>?_⟩
 have hb:(g.batch rs).Ok:=⟨he,hrs⟩
 have hbl:=hb.nums.len
 obtain⟨hlast,hstop,hsg⟩:=h.ok.lastZ
 have hz:=h.ok.each z (by simp)
 have hbe:¬encErr (g.batch rs).base (g.batch rs).en (g.batch rs).rs≠0:=by simp[he]
 by_cases hr:0<g.last.size∧g.most<(g.last.size:Int)+((g.batch rs).bytes.length:Nat)
 ·have hxs:z.2≠[]:=by
   intro h0;have h1:=hz.of.size
   rw[h0] at h1;have h1:z.1.size=0:=h1
   rw[hlast,h1] at hr;omega
  rcases flush_up h with e1 | ⟨d1,e1,u1,s1,n1,l1,r1,o1⟩
  ·left
   refine⟨d,({ g with down:=true }:Lg).fail 14,g,ys,z,?_,⟨rfl,h,rfl,Int.le_refl _,rfl,rfl,rfl,fun _ _ h=>h,fun h=>h,Nat.le_succ _,rfl,Nat.le_succ _⟩⟩
   have hroll:rollLg d g=(14,d,{ g with down:=true }):=by unfold rollLg;rw[e1];rfl
   unfold addLg;rw[if_neg hnd,if_neg hbe,if_pos hr,hroll]
   rfl
  ·have only1:OnlyF d (ys++[z])→OnlyF d1 (ys++[z]):=fun h y hy=>h y (by rw[←o1];exact hy)
   rcases more_up u1 s1 rfl hxs (by omega) with e2 | ⟨d2,s,e2,u2,b2,x2,n2,l2,r2,o2⟩
   ·left
    refine⟨d1,({ g with safe:=g.stop }:Lg).fail 14,_,ys,z,?_,⟨rfl,u1,rfl,h.safe_le,rfl,rfl,rfl,fun _ _ h=>h,only1,Nat.le_succ _,r1,Nat.le_succ _⟩⟩
    have hroll:rollLg d g=(14,d1,{ g with safe:=g.stop }):=by unfold rollLg;rw[e1,if_pos rfl,e2]
    unfold addLg;rw[if_neg hnd,if_neg hbe,if_pos hr,hroll]
    rfl
   ·have hroll:rollLg d g=(0,d2,{ ({ g with safe:=g.stop }:Lg) with segs:=({ g with safe:=g.stop }:Lg).segs++[s] }):=by
     unfold rollLg;rw[e1,if_pos rfl,e2]
    have hst2:({ ({ g with safe:=g.stop }:Lg) with segs:=({ g with safe:=g.stop }:Lg).segs++[s] }:Lg).stop=g.stop:=by rw[u2.ok.lastZ.2.1];exact x2
    have only2:OnlyF d (ys++[z])→OnlyF d2 (ys++[z]++[(s,[])]):=fun h y hy=>by
     rcases o2 y hy with hy | hy
     ·obtain⟨x,hx,he⟩:=only1 h y hy
      exact⟨x,List.mem_append_left _ hx,he⟩
     ·exact⟨_,List.mem_append_right _ (List.mem_singleton.2 rfl),hy⟩
    have hends:∀ ws ends,EndsIn z ws ends→EndsIn (s,[]) ws ends:=fun ws ends h=>h.fresh hz.of rfl (by show s.base=_;rw[b2];exact hstop)
    rcases put_up u2 hb (by rw[hst2];rfl) (by rw[n2,n1,r2,r1];omega) with ⟨g3,e3,dn3,sl3⟩ | ⟨d3,s3,e3,u3,b3,m3,x3,n3,l3,r3,o3⟩
    ·left
     refine⟨d2,g3,_,ys++[z],(s,[]),?_,⟨dn3,u2,rfl,h.safe_le,?_,hst2,(head_snoc ys z z _ rfl).2,hends,only2,?_,by rw[r2,r1],by simp⟩⟩
     ·unfold addLg;rw[if_neg hnd,if_neg hbe,if_pos hr,hroll,if_pos rfl,e3]
     ·rw[allBts_append];simp[allBts]
     ·rw[sl3];show (g.segs++[s]).length≤_
      rw[List.length_append];exact Nat.le_refl _
    ·right
     refine⟨d3,_,ys++[z],(s3,[]++[g.batch rs]),?_,⟨u3,rfl,rfl,rfl,h.safe_le,?_,?_,?_,?_,?_,by rw[n3,n2,n1],by omega,by rw[r3,r2,r1],by simp⟩⟩
     ·unfold addLg;rw[if_neg hnd,if_neg hbe,if_pos hr,hroll,if_pos rfl,e3]
     ·rw[allBts_append,allBts_cons];simp[allBts]
     ·rw[u3.ok.lastZ.2.1];exact x3
     ·exact (head_snoc ys z z _ rfl).2
     ·exact fun ws ends hE=>(hends ws ends hE).snoc (z':=(s3,[]++[g.batch rs])) rfl b3
     ·intro hO y hy;rw[o3] at hy;obtain⟨x,hx,he⟩:=only2 hO y hy
      rcases List.mem_append.1 hx with hx | hx
      ·exact⟨x,List.mem_append_left _ hx,he⟩
      ·refine⟨_,List.mem_append_right _ (List.mem_singleton.2 rfl),?_⟩
       rw[he,List.mem_singleton.1 hx]
       exact m3.symm
 ·rcases put_up h hb rfl (by omega) with ⟨g3,e3,dn3,sl3⟩ | ⟨d3,s3,e3,u3,b3,m3,x3,n3,l3,r3,o3⟩
  ·left
   refine⟨d,g3,g,ys,z,?_,⟨dn3,h,rfl,Int.le_refl _,rfl,rfl,rfl,fun _ _ h=>h,fun h=>h,by omega,rfl,Nat.le_succ _⟩⟩
   unfold addLg;rw[if_neg hnd,if_neg hbe,if_neg hr,e3]
  ·right
   refine⟨d3,_,ys,(s3,z.2++[g.batch rs]),?_,⟨u3,rfl,rfl,rfl,Int.le_refl _,?_,?_,?_,?_,?_,n3,by omega,r3,by omega⟩⟩
   ·unfold addLg;rw[if_neg hnd,if_neg hbe,if_neg hr,e3]
   ·rw[allBts_append,allBts_append];simp[allBts]
   ·rw[u3.ok.lastZ.2.1];exact x3
   ·exact (head_snoc ys z (s3,z.2++[g.batch rs]) z b3).1
   ·exact fun ws ends hE=>hE.snoc rfl b3
   ·intro hO y hy;rw[o3] at hy;obtain⟨x,hx,he⟩:=hO y hy
    rcases List.mem_append.1 hx with hx | hx
    ·exact⟨x,List.mem_append_left _ hx,he⟩
    ·refine⟨_,List.mem_append_right _ (List.mem_singleton.2 rfl),?_⟩
     rw[he,List.mem_singleton.1 hx]
     exact m3.symm
end Go.Proofs.YtdjmifaidgbbaaaGreatDoor
