/-
  A log rolls on to a new segment. (Of the logs' seat.)
-/
import Derived.Test.YtdjmifaidgbbaaaGreatDoorT24
set_option linter.unusedVariables false
set_option linter.unusedSimpArgs false
set_option maxHeartbeats 0
set_option maxRecDepth 200000
namespace Go.Proofs.YtdjmifaidgbbaaaGreatDoor
open Go.RowKit Go.Maps
theorem flush_keeps (d:Dk) (g:Lg):(flushLg d g).2.2.segs=g.segs∧(flushLg d g).2.2.dir=g.dir∧(flushLg d g).2.2.most=g.most:=by
 unfold flushLg Lg.fail;split
 ·exact⟨rfl,rfl,rfl⟩
 ·split
  ·exact⟨rfl,rfl,rfl⟩
  ·dsimp only
   split<;>exact⟨rfl,rfl,rfl⟩
theorem stop_keeps {g g':Lg}(h:g'.segs=g.segs):g'.last=g.last∧g'.stop=g.stop:=by
 have h1:g'.last=g.last:=by unfold Lg.last;rw[h]
 exact⟨h1,by unfold Lg.stop;rw[h1]⟩
def vP:Value→Nat | .pointer (some a)=>a.block | _=>0
def RoF (B:Nat→Prop) (p l:Nat) (S:Nat→Prop) (sv:Value) (ss:List (Nat×Value)) (d d':Dk) (g:Lg) (sg:Sg):List Value→World→Prop
 | [],w=>LgS B w p l S sv ss d g
 | v::vs,w=>∃ s S',v = .tuple #[.pointer (some ⟨s,0,none⟩),.nilIface]∧LgS B w p l S' sv ss d' g∧SgS (BofA B l sv ss) w p s S' (.slice none 0 0) d' sg∧(∀ x,vs[0]? = some x→x=v)∧(∀ x,vs[1]? = some x→x = .pointer (some ⟨s,0,none⟩))∧(∀ x,vs[2]? = some x→x = .pointer (some ⟨s,0,none⟩))
theorem RoF.nil {B:Nat→Prop}{p l:Nat}{S:Nat→Prop}{sv:Value}{ss:List (Nat×Value)}{d d':Dk}{g:Lg}{sg:Sg}{w w':World}(hc:Chg Nil w w'):∀ vs,RoF B p l S sv ss d d' g sg vs w→RoF B p l S sv ss d d' g sg vs w'
 | [],h=>LgS.nil h hc
 | _::_,h=>by
  obtain⟨s,S',h1,h2,h3,h4⟩:=h
  exact⟨s,S',h1,h2.nil hc,h3.nil hc,h4⟩
theorem RoF.end' {B:Nat→Prop}{p l:Nat}{S:Nat→Prop}{sv:Value}{ss:List (Nat×Value)}{d d':Dk}{g:Lg}{sg:Sg}{w:World}{v a b c:Value}(h:RoF B p l S sv ss d d' g sg [v,a,b,c] w):c = .pointer (some ⟨vP c,0,none⟩)∧∃ S',LgS B w p l S' sv ss d' g∧SgS (BofA B l sv ss) w p (vP c) S' (.slice none 0 0) d' sg:=by
 obtain⟨s,S',_,h2,h3,_,_,h4⟩:=h
 obtain rfl:=h4 c rfl
 exact⟨rfl,S',h2,h3⟩
def ReF (B:Nat→Prop) (p l:Nat) (S:Nat→Prop) (sv:Value) (ss:List (Nat×Value)) (d d':Dk) (g:Lg):List Value→World→Prop
 | [],w=>LgS B w p l S sv ss d g
 | _::_,w=>∃ S',LgS B w p l S' sv ss d' g
theorem ReF.nil {B:Nat→Prop}{p l:Nat}{S:Nat→Prop}{sv:Value}{ss:List (Nat×Value)}{d d':Dk}{g:Lg}{w w':World}(hc:Chg Nil w w'):∀ vs,ReF B p l S sv ss d d' g vs w→ReF B p l S sv ss d d' g vs w'
 | [],h=>LgS.nil h hc
 | _::_,⟨S',h⟩=>⟨S',h.nil hc⟩
def MkP (v:Value) (_:World):Prop:=∃ s,v = .tuple #[.pointer (some ⟨s,0,none⟩),.nilIface]
theorem box_row_ne' {w:World}{g:Nat}{cs:List Value}{t e:TypeId}{sz n:Nat}{v:Value}{xs:List Value}(hb:Box w g cs t)(h:w.ownsRow 0 e sz v n xs)(hne:t≠e):¬v.ownBlock=some g:=by
 intro hk;rcases h.2 with ⟨rfl,_⟩ | ⟨g',cap,cur,rfl,_,hg,_⟩
 ·cases hk
 ·obtain rfl:g'=g:=Option.some.inj hk
  have hq:w.heap[g']? = _:=hb
  rw[hq] at hg;exact hne (Obj.cells.inj (Option.some.inj hg)).2.1
theorem lmake_any {B:Nat→Prop}{w:World}{p l:Nat}{S:Nat→Prop}{sv:Value}{ss:List (Nat×Value)}{d:Dk}{g:Lg}(h:LgS B w p l S sv ss d g)(hT:Tabs w)(hTB:TabB B)(hdir:g.dir.length≤100) (n:Nat)(hn:n≤1099511627776) :
  Calls Tryz.prog 54 #[.pointer (some ⟨p,0,none⟩),.string ⟨g.dir.toArray⟩,.int .i64 (n:Nat)] w fun e w'=>
   (((d.make (segName g.dir n)).1=0∧∃ s S',e = .returned (.tuple #[.pointer (some ⟨s,0,none⟩),.nilIface])∧LgS B w' p l S' sv ss (d.make (segName g.dir n)).2 g∧SgS (BofA B l sv ss) w' p s S' (.slice none 0 0) (d.make (segName g.dir n)).2 ⟨segName g.dir n,n,[],0⟩)∨
    ((d.make (segName g.dir n)).1≠0∧∃ S',e = .returned (.tuple #[.pointer none,errD (d.make (segName g.dir n)).1])∧LgS B w' p l S' sv ss (d.make (segName g.dir n)).2 g))∧Chg S w w':=by
 have hds:=h.ds
 have h1:=smake_any hds hT (fun n hn k hk=>.inl (hTB n hn k hk)) ⟨g.dir.toArray⟩ (by show g.dir.toArray.size≤100;simp;exact hdir) n hn
 have e1:segName (ByteArray.mk g.dir.toArray).data.toList n=segName g.dir n:=rfl
 rw[e1] at h1;refine h1.mono ?_
 rintro e w' ⟨hc,S',hds',hcase⟩
 have hoff:Chg (Off (BofA B l sv ss)) w w':=hc.weak fun k hk=>.inl (hds.sl k hk).1
 have hlg:=h.disk hds' hoff
 rcases hcase with ⟨h0,s,_,he,hsg⟩ | ⟨h0,he⟩
 ·exact⟨.inl ⟨h0,s,S',he,hlg,hsg⟩,hc⟩
 ·exact⟨.inr ⟨h0,S',he,hlg⟩,hc⟩
theorem lroll_any {B:Nat→Prop} {w:World} {p l:Nat} {S:Nat→Prop} {sv:Value} {ss:List (Nat×Value)} {d:Dk} {g:Lg} (h:LgS B w p l S sv ss d g) (hn:LgN B w ss g) (hT:Tabs w) (hTB:TabB B) (hdir:g.dir.length≤100) (n:Nat) (hst:g.stop=(n:Int)) (hn1:n≤1099511627776) :
  Calls Tryz.prog 60 #[.pointer (some ⟨l,0,none⟩)] w fun e w'=>e = .returned (errD (rollLg d g).1)∧(∃ S' sv' ss',LgS B w' p l S' sv' ss' (rollLg d g).2.1 (rollLg d g).2.2∧0<ss'.length∧ss'.length≤ss.length+1)∧Chg (Off B) w w':=by
 have hflu:=lflush_any h hn
 obtain⟨j1,j2,j3⟩:=flush_keeps d g
 obtain⟨⟨fk,d1,g1⟩,hF1⟩:∃ F1,flushLg d g=F1:=⟨_,rfl⟩
 rw[hF1] at hflu j1 j2 j3
 have HFLU:Hid (Calls Tryz.prog 32 #[.pointer (some ⟨l,0,none⟩)] w fun e w'=>e = .returned (errD fk)∧(∃ S',LgS B w' p l S' sv ss d1 g1)∧Chg (Off B) w w'):=hflu
 have HROLL:Hid (rollLg d g=if fk=0 then moreLg d1 g1 else (fk,d1,g1)):=by unfold Hid rollLg;rw[hF1]
 have k1:g1.segs=g.segs:=j1
 have k2:g1.dir=g.dir:=j2
 have hst1:g1.stop=(n:Int):=(stop_keeps k1).2.trans hst
 have hl1:g1.last=g.last:=(stop_keeps k1).1
 have HST:=Lib.hid hst1
 have HL1:=Lib.hid hl1
 have HDIR:Hid (g1.dir.length≤100):=by unfold Hid;rw[k2];exact hdir
 have HN:=Lib.hid hn
 have HT:=Lib.hid hT
 have HTB:=Lib.hid hTB
 have HN1:=Lib.hid hn1
 clear h hn hflu hT hTB hdir hst hn1 k1 k2 j1 j2 j3 hF1 hst1 hl1;go_enter Tryz.func60,Tryz.ntmps60
 go_wp2_with fail;refine HFLU.out.mono ?_
 rintro e w1 ⟨rfl,⟨S1,hs1⟩,hc1⟩
 have HS1:=Lib.hid hs1
 have HC1:=Lib.hid hc1
 clear hs1 hc1 HFLU;by_cases hk:fk=0
 ·subst hk;have HR:Hid (rollLg d g=moreLg d1 g1):=by unfold Hid;rw[HROLL.out];exact if_pos rfl
  have hz:errD 0 = .nilIface:=rfl
  rw[hz];have c0:=HS1.out.c.cell (j:=0) rfl
  have c1:=HS1.out.c.cell (j:=1) rfl
  have HNL:Hid (¬S1 l):=fun hs=>(HS1.out.sl l hs).2.1 (.inl rfl)
  have HTS:Hid (∀ w2,Chg S1 w1 w2→Tabs w2):=fun w2 hw=>
   (HT.out.off HC1.out (fun m hm k hk hn=>hn (HTB.out m hm k hk))).off hw (fun m hm k hk hs=>(HS1.out.sl k hs).1 (HTB.out m hm k hk))
  have HEN:Hid (∀ w2,Chg S1 w1 w2→Calls Tryz.prog 15 #[.pointer (some ⟨l,0,none⟩)] w2 fun e w3=>e = .returned (.int .i64 (n:Nat))∧Chg Nil w2 w3):=fun w2 hw=>by
   have h1:=lend_any (HS1.out.t.chg hw (fun k hk hs=>(HS1.out.sl k hs).2.1 hk) (fun k hk hs=>(HS1.out.sl k hs).2.2.1 hk)) HN.out.ne HN.out.few (by rw[HL1.out];exact Nat.le_trans HN.out.pls (by omega))
   rw[HST.out] at h1;exact h1
  have HMK:=Lib.hid (fun (w2:World) (h2:LgS B w2 p l S1 sv ss d1 g1) (h3:Tabs w2)=>lmake_any h2 h3 HTB.out HDIR.out n HN1.out)
  obtain⟨M,hM⟩:∃ M,d1.make (segName g1.dir n)=M:=⟨_,rfl⟩
  rw[hM] at HMK;have HM:Hid (moreLg d1 g1=if M.1=0 then (0,M.2,{ g1 with segs:=g1.segs++[⟨segName g1.dir n,n,[],0⟩] }) else (M.1,M.2,g1)):=by
   unfold Hid moreLg;rw[HST.out,Int.toNat_natCast,hM]
  clear hz hM;by_cases hm:M.1=0
  ·have HM0:=Lib.hid hm
   clear hm;go_upto_region 4 with fail;refine Ch.wp_region_chain _ (Chg (S1)) [10,11,12,14] (RoF B p l S1 sv ss d1 M.2 g1 ⟨segName g1.dir n,n,[],0⟩) (by kernel_rfl) (fun _=>Chg.refl _ _) (fun _ _ _ h k=>h.trans k (fun _ h=>.inl h)) [[],[0],[1],[2],[],[4],[5],[6],[],[8],[3,7,9],[10],[11],[11],[12],[13]] rfl (by kernel_rfl) (by kernel_rfl) (Chg.refl _ _).drew ?_ ?_
   ·exact HS1.out.nil (Chg.refl Nil _).drew
   iterate 3 ((with_reducible apply Ch.Walk.eq);(case hd=>rfl);(case hi=>rfl);case h=>(intro w2 hw2 N hN;simp only[Ch.depB];go_simp;(try go_bits);with_reducible exact hN _ (Chg.refl _ _) (fun _ h=>h)))
   ((with_reducible apply Ch.Walk.eq);(case hd=>rfl);(case hi=>rfl);case h=>(intro w2 hw2 N hN;(have hq:=hw2.cell c0 HNL.out);simp only[Ch.depB];go_simp;(try go_bits);with_reducible exact hN _ (Chg.refl _ _) (fun _ h=>h)))
   iterate 3 ((with_reducible apply Ch.Walk.eq);(case hd=>rfl);(case hi=>rfl);case h=>(intro w2 hw2 N hN;simp only[Ch.depB];go_simp;(try go_bits);with_reducible exact hN _ (Chg.refl _ _) (fun _ h=>h)))
   ((with_reducible apply Ch.Walk.eq);(case hd=>rfl);(case hi=>rfl);case h=>(intro w2 hw2 N hN;(have hq:=hw2.cell c1 HNL.out);simp only[Ch.depB];go_simp;(try go_bits);with_reducible exact hN _ (Chg.refl _ _) (fun _ h=>h)))
   ((with_reducible apply Ch.Walk.eq);(case hd=>rfl);(case hi=>rfl);case h=>(intro w2 hw2 N hN;simp only[Ch.depB];go_simp;(try go_bits);with_reducible exact hN _ (Chg.refl _ _) (fun _ h=>h)))
   (with_reducible apply Ch.Walk.eq);(case hd=>rfl);(case hi=>rfl);case h=>
    intro w2 hw2 N hN;simp only[Ch.depB,Ch.depC,Nat.reduceBEq,Nat.reduceAdd]
    go_simp;refine (HEN.out w2 hw2).mono ?_
    rintro e w5 ⟨rfl,hc5⟩
    exact⟨_,rfl,hN _ (hc5.weak (fun _ h=>h.elim)) (fun vs hF=>RoF.nil hc5 vs hF)⟩
   simp only[List.nil_append,List.cons_append]
   refine Ch.Walk.chainP 0 MkP (fun _ _ _ h _=>h) rfl rfl ?_ ?_
   ·intro w2 hw2 vs hvs hF N hN;obtain rfl:=List.eq_nil_of_length_eq_zero hvs
    have hF1:LgS B w2 p l S1 sv ss d1 g1:=hF
    clear hF;simp only[Ch.depB,Ch.depC,Nat.reduceBEq,Nat.reduceAdd]
    go_simp;refine (HMK.out w2 hF1 (HTS.out w2 hw2)).mono ?_
    rintro e w5 ⟨hcase,hc5⟩
    rcases hcase with ⟨_,s,S',rfl,h2,h3⟩ | ⟨hne,_⟩
    ·exact⟨_,rfl,hN _ _ ⟨s,rfl⟩ hc5 ⟨s,S',rfl,h2,h3,fun x hx=>(by simp at hx),fun x hx=>(by simp at hx),fun x hx=>(by simp at hx)⟩⟩
    ·exact absurd HM0.out hne
   simp only[List.nil_append,List.cons_append]
   refine Ch.Walk.chainP 1 MkP (fun _ _ _ h _=>h) rfl rfl ?_ ?_
   ·intro w2 hw2 vs hvs hF N hN;obtain⟨x,rfl⟩:=List.length_eq_one_iff.1 hvs
    obtain⟨s,S',rfl,h2,h3,_⟩:=hF
    simp only[Ch.depB,Ch.depC,Nat.reduceBEq,Nat.reduceAdd]
    go_simp;exact hN _ _ ⟨s,rfl⟩ (Chg.refl _ _) ⟨s,S',rfl,h2,h3,fun x hx=>(by simpa using hx.symm),fun x hx=>(by simp at hx),fun x hx=>(by simp at hx)⟩
   simp only[List.nil_append,List.cons_append]
   refine Ch.Walk.chain 2 rfl rfl ?_ ?_
   ·intro w2 hw2 vs hvs hF N hN;rcases vs with _ | ⟨x,_ | ⟨y,_ | ⟨z,r⟩⟩⟩<;>simp at hvs
    obtain⟨s,S',rfl,h2,h3,h4,_⟩:=hF
    obtain rfl:=h4 y rfl
    simp only[Ch.depB,Ch.depC,Nat.reduceBEq,Nat.reduceAdd]
    go_simp;exact hN _ _ (Chg.refl _ _) ⟨s,S',rfl,h2,h3,fun x hx=>(by simpa using hx.symm),fun x hx=>(by simpa using hx.symm),fun x hx=>(by simp at hx)⟩
   simp only[List.nil_append,List.cons_append]
   (with_reducible apply Ch.Walk.eq);(case hd=>rfl);(case hi=>rfl);case h=>
    intro w2 hw2 N hN;simp only[Ch.depB,Ch.depC,Nat.reduceBEq,Nat.reduceAdd]
    rintro v ⟨s,rfl⟩
    go_simp;with_reducible exact hN _ (Chg.refl _ _) (fun _ h=>h)
   simp only[List.nil_append,List.cons_append]
   refine Ch.Walk.chain 3 rfl rfl ?_ ?_
   ·intro w2 hw2 vs hvs hF N hN;rcases vs with _ | ⟨x,_ | ⟨y,_ | ⟨z,_ | ⟨u,r⟩⟩⟩⟩<;>simp at hvs
    obtain⟨s,S',rfl,h2,h3,h4,h5,_⟩:=hF
    obtain rfl:=h4 y rfl
    obtain rfl:=h5 z rfl
    simp only[Ch.depB,Ch.depC,Nat.reduceBEq,Nat.reduceAdd]
    go_simp;exact hN _ _ (Chg.refl _ _) ⟨s,S',rfl,h2,h3,fun x hx=>(by simpa using hx.symm),fun x hx=>(by simpa using hx.symm),fun x hx=>(by simpa using hx.symm)⟩
   ((with_reducible apply Ch.Walk.eq);(case hd=>rfl);(case hi=>rfl);case h=>(intro w2 hw2 N hN;simp only[Ch.depB];go_simp;(try go_bits);with_reducible exact hN _ (Chg.refl _ _) (fun _ h=>h)))
   intro w6 hw6;simp only[List.nil_append,List.cons_append,Ch.Fin,List.map_cons,List.map_nil,List.getD_cons_zero,List.getD_cons_succ]
   intro v10 _ v11 _ v12 _ v14 _ hF;have e14:=(RoF.end' hF).1
   have H14:=Lib.hid (RoF.end' hF).2
   have HW6:Hid (Chg S1 w1 w6):=hw6
   clear hF hw6 c0 c1;generalize vP v14=s at e14 H14;subst e14;go_simp;obtain⟨S2,hs2,hsg⟩:=H14.out
   have HS2:=Lib.hid hs2
   have HSG:=Lib.hid hsg
   have HFEW:=Lib.hid HN.out.few
   have hsf:=hs2.o.form
   rw[List.length_map] at hsf;generalize vA sv=sa at hsf;generalize vC sv=sc at hsf;subst hsf;have HOW:Hid (OwnT (w6.alloc (.cells #[.pointer (some ⟨s,0,none⟩)] 104)) (.slice sa ss.length sc) (ss.map (·.1))):=ownsRow_chg HS2.out.o ((Chg.refl Nil w6).alloc _) (fun _ _ h=>h)
   have HB1:=Lib.hid (Box.new w6 [.pointer (some ⟨s,0,none⟩)] 104)
   have c3:=HS2.out.c.cell (j:=3) rfl
   clear hs2 hsg H14;go_upto_region 7 with fail;go_wp2_with (at_builtin;go_must (refine wpList_append_grew rfl (.tmp 32) (.tmp 34) 97 97 rfl segT _ Tryz.underlying97 (by intro _;simp) (.slice sa ss.length sc) ss.length ((ss.map (·.1)).map fun s=>Value.pointer (some ⟨s,0,none⟩)) rfl (by have h9:=HOW.out;unfold OwnT at h9;rw[List.length_map] at h9;exact h9) _ 1 [.pointer (some ⟨s,0,none⟩)] rfl (Source.box HB1.out rfl (by intro u hu;rw[List.mem_singleton.1 hu];rfl)) (by have:=HFEW.out;unfold maxLen;omega) (by have:=HFEW.out;omega) ?_);intro v2 w7 hown2 hg2 _;have HOW2:=Lib.hid hown2;have HG2:=Lib.hid hg2;obtain⟨x2,n2,c2,rfl⟩:=ownsRow_form hown2;have hbx7:=Lib.hid ((HS2.out.c.chg ((Chg.refl Nil w6).alloc (.cells #[.pointer (some ⟨s,0,none⟩)] 104)) (fun h=>h)).chg hg2.chg (fun h=>(box_row_ne' HS2.out.c HS2.out.o (by decide)) h));have f3:=hbx7.out.free 3;have d3:=hbx7.out.cell (j:=3) rfl;clear hown2 hg2 c3)
   go_ret;have hset:Chg (fun k=>k=l) w7 (w7.setCell ⟨l,3,none⟩ (.slice x2 n2 c2)):=(Chg.refl (fun k=>k=l) _).setCell (.inl rfl) _
   have ho:OwnT w7 (.slice x2 n2 c2) (ss.map (·.1)++[s]):=by
    unfold OwnT;rw[List.length_append,List.length_map,List.length_singleton,List.map_append,List.map_singleton];exact HOW2.out
   have hC1:Chg (fun k=>(Value.slice sa ss.length sc).ownBlock=some k) w6 w7:=(((Chg.refl Nil w6).alloc _).weak (fun _ h=>h.elim)).trans HG2.out.chg (fun k hk=>.inl hk)
   have hfin:=HS2.out.more HSG.out ho hC1 (fun k hk=>(HG2.out.own k hk).imp id (fun h=>by rw[World.size_alloc] at h;omega)) hset (hbx7.out.set 3 _)
   rw[HR.out,HM.out,if_pos HM0.out]
   refine⟨rfl,⟨S2,_,_,hfin,by simp,by simp⟩,?_⟩
   exact ((HC1.out.trans (HW6.out.weak (fun k hk=>.inl (HS1.out.sl k hk).1)) (fun k hk=>.inl hk)).trans (hC1.weak (fun k hk=>.inl (HS2.out.lb k (.inr hk)).1)) (fun k hk=>.inl hk)).trans (hset.weak (fun k hk=>.inl (fun hb=>(HS2.out.lb l (.inl rfl)).1 (hk ▸ hb)))) (fun k hk=>.inl hk)
  ·have HM0:=Lib.hid hm
   clear hm;go_upto_region 4 with fail;refine Ch.wp_region_chain _ (Chg (S1)) [10] (ReF B p l S1 sv ss d1 M.2 g1) (by kernel_rfl) (fun _=>Chg.refl _ _) (fun _ _ _ h k=>h.trans k (fun _ h=>.inl h)) [[],[0],[1],[2],[],[4],[5],[6],[],[8],[3,7,9],[10],[11],[11],[12],[13]] rfl (by kernel_rfl) (by kernel_rfl) (Chg.refl _ _).drew ?_ ?_
   ·exact HS1.out.nil (Chg.refl Nil _).drew
   iterate 3 ((with_reducible apply Ch.Walk.eq);(case hd=>rfl);(case hi=>rfl);case h=>(intro w2 hw2 N hN;simp only[Ch.depB];go_simp;(try go_bits);with_reducible exact hN _ (Chg.refl _ _) (fun _ h=>h)))
   ((with_reducible apply Ch.Walk.eq);(case hd=>rfl);(case hi=>rfl);case h=>(intro w2 hw2 N hN;(have hq:=hw2.cell c0 HNL.out);simp only[Ch.depB];go_simp;(try go_bits);with_reducible exact hN _ (Chg.refl _ _) (fun _ h=>h)))
   iterate 3 ((with_reducible apply Ch.Walk.eq);(case hd=>rfl);(case hi=>rfl);case h=>(intro w2 hw2 N hN;simp only[Ch.depB];go_simp;(try go_bits);with_reducible exact hN _ (Chg.refl _ _) (fun _ h=>h)))
   ((with_reducible apply Ch.Walk.eq);(case hd=>rfl);(case hi=>rfl);case h=>(intro w2 hw2 N hN;(have hq:=hw2.cell c1 HNL.out);simp only[Ch.depB];go_simp;(try go_bits);with_reducible exact hN _ (Chg.refl _ _) (fun _ h=>h)))
   ((with_reducible apply Ch.Walk.eq);(case hd=>rfl);(case hi=>rfl);case h=>(intro w2 hw2 N hN;simp only[Ch.depB];go_simp;(try go_bits);with_reducible exact hN _ (Chg.refl _ _) (fun _ h=>h)))
   (with_reducible apply Ch.Walk.eq);(case hd=>rfl);(case hi=>rfl);case h=>
    intro w2 hw2 N hN;simp only[Ch.depB,Ch.depC,Nat.reduceBEq,Nat.reduceAdd]
    go_simp;refine (HEN.out w2 hw2).mono ?_
    rintro e w5 ⟨rfl,hc5⟩
    exact⟨_,rfl,hN _ (hc5.weak (fun _ h=>h.elim)) (fun vs hF=>ReF.nil hc5 vs hF)⟩
   simp only[List.nil_append,List.cons_append]
   refine Ch.Walk.chainE 0 (c:=.tuple #[.pointer none,errD M.1]) rfl rfl ?_ ?_
   ·intro w2 hw2 vs hvs hF N hN;obtain rfl:=List.eq_nil_of_length_eq_zero hvs
    have hF1:LgS B w2 p l S1 sv ss d1 g1:=hF
    clear hF;simp only[Ch.depB,Ch.depC,Nat.reduceBEq,Nat.reduceAdd]
    go_simp;refine (HMK.out w2 hF1 (HTS.out w2 hw2)).mono ?_
    rintro e w5 ⟨hcase,hc5⟩
    rcases hcase with ⟨h0,_⟩ | ⟨_,S',rfl,h2⟩
    ·exact absurd h0 HM0.out
    ·exact⟨_,rfl,hN _ hc5 ⟨S',h2⟩⟩
   iterate 5 ((with_reducible apply Ch.Walk.eq);(case hd=>rfl);(case hi=>rfl);case h=>(intro w2 hw2 N hN;simp only[Ch.depB];go_simp;(try go_bits);with_reducible exact hN _ (Chg.refl _ _) (fun _ h=>h)))
   intro w6 hw6;simp only[List.nil_append,List.cons_append,Ch.Fin,List.map_cons,List.map_nil,List.getD_cons_zero,List.getD_cons_succ]
   intro hF;have HF:Hid (∃ S',LgS B w6 p l S' sv ss M.2 g1):=hF
   have HW6:Hid (Chg S1 w1 w6):=hw6
   clear hF hw6 c0 c1;have hz:=errD_ne HM0.out
   rw[hz];clear hz;go_simp;go_wp2_with fail;go_ret;rw[HR.out,HM.out,if_neg HM0.out]
   obtain⟨S2,h2⟩:=HF.out
   exact⟨by show _=Ending.returned (errD M.1);rw[errD_ne HM0.out];rfl,⟨S2,sv,ss,h2,HN.out.ne,by omega⟩,HC1.out.trans (HW6.out.weak (fun k hk=>.inl (HS1.out.sl k hk).1)) (fun k hk=>.inl hk)⟩
 ·have hz:=errD_ne hk
  rw[hz];have HR:Hid (rollLg d g=(fk,d1,g1)):=by unfold Hid;rw[HROLL.out,if_neg hk]
  have HK:=Lib.hid hk
  clear hk hz;go_wp2_with fail;go_ret;rw[HR.out];exact⟨by show _=Ending.returned (errD fk);rw[errD_ne HK.out];rfl,⟨S1,sv,ss,HS1.out,HN.out.ne,by omega⟩,HC1.out⟩
end Go.Proofs.YtdjmifaidgbbaaaGreatDoor
