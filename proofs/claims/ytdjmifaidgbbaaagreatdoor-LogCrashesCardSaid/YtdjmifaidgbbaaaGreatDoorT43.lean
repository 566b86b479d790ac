/-
  The law's step Add. (Of the logs' seat.)
-/
import Derived.Test.YtdjmifaidgbbaaaGreatDoorT42
set_option linter.unusedVariables false
set_option linter.unusedSimpArgs false
set_option maxHeartbeats 0
set_option maxRecDepth 200000
namespace Go.Proofs.YtdjmifaidgbbaaaGreatDoor
open Go.RowKit Go.Maps
section
variable {w0 w:World} {x p l:Nat} {most:Int} {B S:Nat→Prop} {sv:Value} {ss:List (Nat×Value)} {d:Dk} {g:Lg} {va vg vm ve:Value} {W:Wd} {m:Nat}
theorem ResOk.other {W W1:Wd}{k:Nat}{d':Dk}{g':Lg}{m:Nat}(h:ResOk W W1 k d' g' m)(hk:k≠0):ResOk W W k d' g' m:=by
 rcases h with ⟨h1,_⟩ | h | h | h
 ·exact absurd h1 hk
 ·exact .inr (.inl h)
 ·exact .inr (.inr (.inl h))
 ·exact .inr (.inr (.inr h))
theorem ResOk.new {W W1:Wd}{d':Dk}{g':Lg}{m:Nat}(h:ResOk W W1 0 d' g' m)(hd:W1.down=W.down):ResOk W1 W1 0 d' g' m:=by
 rcases h with ⟨h1,h2,h3⟩ | ⟨h,_⟩ | ⟨h,_⟩ | ⟨h,_⟩
 ·exact .inl ⟨h1,by rw[hd];exact h2,h3⟩
 ·cases h
 ·cases h
 ·exact absurd rfl h
theorem op_add2 (hp:WPl W d g m)(hm:m≤62)(hH:Handle w0)(hT:TabE w0) (a:Option Addr) (rs:List Rec) (cap:Nat)(hl:rs.length≤60)(hok:∀ r∈rs,Rec.Ok r):∃ (n:Int) (k:Nat),(k=0→n=W.all.length)∧∀ (w:World) (B S:Nat→Prop) (sv:Value) (ss:List (Nat×Value)) (va vg vm ve:Value),WS w0 w x p l most B S sv ss d g va vg vm ve W→RecsAt w a rs→
  Calls Tryz.prog 12 #[.pointer (some ⟨l,0,none⟩),.slice a rs.length cap] w fun e w'=>e = .returned (.tuple #[.int .i64 n,errD k])∧OpAt w0 w x p l most B va vg vm ve W ss.length w' fun d' g'=>ResOk W (W.add rs) k d' g' m:=by
 rcases hp with ⟨ys,z,hu⟩ | ⟨hd1,hd2,g2,ys,z,hcc⟩
 ·refine⟨if (addLg d g rs).1=0 then (W.all.length:Nat) else 0,(addLg d g rs).1,fun hk=>if_pos hk,fun w B S sv ss va vg vm ve h hc=>?_⟩
  have hn:=hu.needs h hH (by omega)
  have hsl:=hu.ssl h
  have hseg:=hu.c.segs
  have hst:=hu.c.stop
  have hmn:=hu.c.many
  have hT1:TabE w:=hT.chg h.ch
  have hTB:TabB B:=fun n hn k hk=>h.b0 k (hT.tabs.lt n hn k hk)
  refine (ladd_any h.lg hn hT1.tabs hTB (by rw[hu.c.dir];simp) (by omega) (W.all.length:Nat) hst (by omega) a rs cap (by omega) hok hc).mono ?_
  rintro e w' ⟨he,⟨S',sv',ss',h3,h5,h6⟩,h4⟩
  refine⟨he,S',sv',ss',_,_,h.log h3 h4 h5,h6,?_,h4⟩
  rcases hu.addR hm rs hl hok with ⟨k,k0,k6,k14,hr⟩ | hr
  ·rw[hr];exact .inr (.inr (.inr ⟨k0,k6,k14,.inl ⟨ys,z,⟨hu.c.more (Nat.le_succ _),hu.only,hu.recs,hu.dn⟩⟩⟩))
  ·exact hr.ok hu.dn
 ·refine⟨0,6,fun hk=>absurd hk (by decide),fun w B S sv ss va vg vm ve h hc=>?_⟩
  refine (ladd_down (h.downBox hd1) _).mono ?_
  rintro e w' ⟨he,hw⟩
  obtain rfl:=hw.symm
  exact⟨he,S,sv,ss,d,g,h,Nat.le_succ _,.inr (.inr (.inl ⟨rfl,hd2,.inr ⟨hd1,hd2,g2,ys,z,hcc.more (Nat.le_succ _)⟩⟩)),Chg.refl _ _⟩
theorem Wd.add_succ (W:Wd) (rs:List Rec) {t:Nat}(ht:t<rs.length):W.add (rs.take (t+1)) = { W.add (rs.take t) with all:=(W.add (rs.take t)).all++[{ rs[t] with off:=(W.all.length:Nat)+(t:Nat) }],gone:=(W.add (rs.take t)).gone++[false],may:=(W.add (rs.take t)).may++[false] }:=by
 have h1:(rs.take t).length=t:=by rw[List.length_take];omega
 have h2:(rs.take (t+1)).length=t+1:=by rw[List.length_take];omega
 have h3:List.replicate (t+1) false=List.replicate t false++[false]:=List.replicate_succ'
 unfold Wd.add;rw[h1,h2,h3,List.take_succ_eq_append_getElem ht,numbered_snoc,h1,List.append_assoc,List.append_assoc,List.append_assoc]
def AddF (n0:Nat) (va vg vm:Value) (A:List Rec) (G M:List Bool) (r:Rec):List Value→World→Prop
 | [],w=>OwnR 37 w va A∧OwnL w vg G∧OwnL w vm M
 | [v1],w=>(OwnR 37 w v1 (A++[r])∧∀ k,v1.ownBlock=some k→va.ownBlock=some k∨n0≤k)∧OwnL w vg G∧OwnL w vm M
 | [v1,v2],w=>(OwnR 37 w v1 (A++[r])∧∀ k,v1.ownBlock=some k→va.ownBlock=some k∨n0≤k)∧(OwnL w v2 (G++[false])∧∀ k,v2.ownBlock=some k→vg.ownBlock=some k∨n0≤k)∧OwnL w vm M
 | [v1,v2,v3],w=>(OwnR 37 w v1 (A++[r])∧∀ k,v1.ownBlock=some k→va.ownBlock=some k∨n0≤k)∧(OwnL w v2 (G++[false])∧∀ k,v2.ownBlock=some k→vg.ownBlock=some k∨n0≤k)∧(OwnL w v3 (M++[false])∧∀ k,v3.ownBlock=some k→vm.ownBlock=some k∨n0≤k)∧∀ k,v2.ownBlock=some k→v3.ownBlock≠some k
 | _,_=>False
theorem OwnL.chg {S:Nat→Prop}{w w':World}{v:Value}{l:List Bool}(h:OwnL w v l)(hc:Chg S w w')(hn:∀ k,v.ownBlock=some k→¬S k):OwnL w' v l:=ownsRow_chg h hc hn
theorem AddF.nil {n0:Nat}{va vg vm:Value}{A:List Rec}{G M:List Bool}{r:Rec}{w w':World}(hc:Chg Nil w w'):∀ vs,AddF n0 va vg vm A G M r vs w→AddF n0 va vg vm A G M r vs w'
 | [],⟨h1,h2,h3⟩=>⟨ownsRow_chg h1 hc (fun _ _ h=>h),h2.chg hc (fun _ _ h=>h),h3.chg hc (fun _ _ h=>h)⟩
 | [_],⟨⟨h1,k1⟩,h2,h3⟩=>⟨⟨ownsRow_chg h1 hc (fun _ _ h=>h),k1⟩,h2.chg hc (fun _ _ h=>h),h3.chg hc (fun _ _ h=>h)⟩
 | [_,_],⟨⟨h1,k1⟩,⟨h2,k2⟩,h3⟩=>⟨⟨ownsRow_chg h1 hc (fun _ _ h=>h),k1⟩,⟨h2.chg hc (fun _ _ h=>h),k2⟩,h3.chg hc (fun _ _ h=>h)⟩
 | [_,_,_],⟨⟨h1,k1⟩,⟨h2,k2⟩,⟨h3,k3⟩,h4⟩=>⟨⟨ownsRow_chg h1 hc (fun _ _ h=>h),k1⟩,⟨h2.chg hc (fun _ _ h=>h),k2⟩,⟨h3.chg hc (fun _ _ h=>h),k3⟩,h4⟩
 | _::_::_::_::_,h=>h.elim
def NewS (n0:Nat) (cs:List Value) (t:TypeId) (v:Value) (w:World):Prop:=∃ q,v = .slice (some ⟨q,0,none⟩) 1 1∧n0≤q∧Box w q cs t
theorem NewS.keep {n0:Nat}{cs:List Value}{t:TypeId}{v:Value}{w w':World}{T:Nat→Prop}(h:NewS n0 cs t v w)(hc:Chg T w w')(hT:∀ k,T k→k<n0):NewS n0 cs t v w':=by
 obtain⟨q,h1,h2,h3⟩:=h
 exact⟨q,h1,h2,h3.chg hc (fun hq=>by have:=hT _ hq;omega)⟩
theorem box_ne {w:World}{g g':Nat}{cs cs':List Value}{t t':TypeId}(h:Box w g cs t)(h':Box w g' cs' t')(hne:t≠t'):g≠g':=fun e=>by
 subst e;have h1:w.heap[g]? = _:=h
 have h2:w.heap[g]? = _:=h'
 rw[h1] at h2;exact hne (Obj.cells.inj (Option.some.inj h2)).2.1
structure XR (T:Nat→Prop) (Sh Sto:World→Prop) (a b:World):Prop where
 c:Chg T a b
 sh:Sh a→Sh b
 st:Sto a→Sto b
theorem XR.refl {T:Nat→Prop}{Sh Sto:World→Prop} (a:World):XR T Sh Sto a a:=⟨Chg.refl _ _,id,id⟩
theorem XR.trans {T:Nat→Prop}{Sh Sto:World→Prop}{a b c:World}(h:XR T Sh Sto a b) (k:XR T Sh Sto b c):XR T Sh Sto a c:=⟨h.c.trans k.c (fun _ h=>.inl h),fun h1=>k.sh (h.sh h1),fun h1=>k.st (h.st h1)⟩
section
variable {x p l n0:Nat} {most:Int} {va vg vm ve:Value} {W1:Wd} {r:Rec} {w w':World}
def ShX (x p l:Nat) (most:Int) (ve:Value) (W1:Wd) (w:World):Prop:=∃ v3 v4 v5,Box w x (W1.cells p l most v3 v4 v5 ve) 56
def StoX (x:Nat) (va vg vm:Value) (w:World):Prop:=w.cell? ⟨x,3,none⟩≠some va∨w.cell? ⟨x,4,none⟩≠some vg∨w.cell? ⟨x,5,none⟩≠some vm
theorem StoX.no (hb:Box w x (W1.cells p l most va vg vm ve) 56):¬StoX x va vg vm w:=by
 have h3:w.cell? ⟨x,3,none⟩=some va:=hb.cell (j:=3) rfl
 have h4:w.cell? ⟨x,4,none⟩=some vg:=hb.cell (j:=4) rfl
 have h5:w.cell? ⟨x,5,none⟩=some vm:=hb.cell (j:=5) rfl
 rintro (h | h | h)
 ·exact h h3
 ·exact h h4
 ·exact h h5
theorem StoX.yes {v1 v2 v3:Value}(hb:Box w x (W1.cells p l most v1 v2 v3 ve) 56)(hne:v1≠va):StoX x va vg vm w:=by
 have h3:w.cell? ⟨x,3,none⟩=some v1:=hb.cell (j:=3) rfl
 exact .inl (by rw[h3];exact fun e=>hne (Option.some.inj e))
theorem XR.nil {T:Nat→Prop}(hs:ShX x p l most ve W1 w)(hc:Chg Nil w w'):XR T (ShX x p l most ve W1) (StoX x va vg vm) w w':=by
 obtain⟨v3,v4,v5,hb⟩:=hs
 have hb':=hb.chg hc (fun h=>h)
 refine⟨hc.weak (fun _ h=>h.elim),fun _=>⟨v3,v4,v5,hb'⟩,fun h=>?_⟩
 have e3:w'.cell? ⟨x,3,none⟩=w.cell? ⟨x,3,none⟩:=(hb'.cell (j:=3) rfl).trans (hb.cell (j:=3) rfl).symm
 have e4:w'.cell? ⟨x,4,none⟩=w.cell? ⟨x,4,none⟩:=(hb'.cell (j:=4) rfl).trans (hb.cell (j:=4) rfl).symm
 have e5:w'.cell? ⟨x,5,none⟩=w.cell? ⟨x,5,none⟩:=(hb'.cell (j:=5) rfl).trans (hb.cell (j:=5) rfl).symm
 unfold StoX;rw[e3,e4,e5];exact h
def pickV (vs:List Value) (n i:Nat) (v:Value):Value:=if n≤vs.length then vs.getD i undef else v
def AddX (x p l n0:Nat) (most:Int) (va vg vm ve:Value) (W1:Wd) (r:Rec) (vs:List Value) (w:World):Prop:=AddF n0 va vg vm W1.all W1.gone W1.may r (vs.take 3) w∧Box w x (W1.cells p l most (pickV vs 4 0 va) (pickV vs 5 1 vg) (pickV vs 6 2 vm) ve) 56
theorem AddX.nil (hc:Chg Nil w w') (vs:List Value)(h:AddX x p l n0 most va vg vm ve W1 r vs w):AddX x p l n0 most va vg vm ve W1 r vs w':=⟨AddF.nil hc _ h.1,h.2.chg hc (fun h=>h)⟩
theorem eq1 {vs:List Value}(h:vs.length=1):vs=[vs.getD 0 undef]:=by
 match vs,h with
 | [a],_=>rfl
theorem eq2 {vs:List Value}(h:vs.length=2):vs=[vs.getD 0 undef,vs.getD 1 undef]:=by
 match vs,h with
 | [a,b],_=>rfl
theorem eq3 {vs:List Value}(h:vs.length=3):vs=[vs.getD 0 undef,vs.getD 1 undef,vs.getD 2 undef]:=by
 match vs,h with
 | [a,b,c],_=>rfl
theorem eq4 {vs:List Value}(h:vs.length=4):vs=[vs.getD 0 undef,vs.getD 1 undef,vs.getD 2 undef,vs.getD 3 undef]:=by
 match vs,h with
 | [a,b,c,d],_=>rfl
theorem eq5 {vs:List Value}(h:vs.length=5):vs=[vs.getD 0 undef,vs.getD 1 undef,vs.getD 2 undef,vs.getD 3 undef,vs.getD 4 undef]:=by
 match vs,h with
 | [a,b,c,d,e],_=>rfl
theorem AddF.at3 {v1 v2 v3:Value}{cs:List Value}{A:List Rec}{G M:List Bool}(h:AddF n0 va vg vm A G M r [v1,v2,v3] w)(hb:Box w x cs 56)(hc:Chg (fun k=>k=x) w w'):AddF n0 va vg vm A G M r [v1,v2,v3] w':=by
 obtain⟨⟨h1,k1⟩,⟨h2,k2⟩,⟨h3,k3⟩,h4⟩:=h
 exact⟨⟨ownsRow_chg h1 hc (fun k hk e=>box_row_ne' hb h1 (by decide) (e ▸ hk)),k1⟩,⟨h2.chg hc (fun k hk e=>box_row_ne' hb h2 (by decide) (e ▸ hk)),k2⟩,⟨h3.chg hc (fun k hk e=>box_row_ne' hb h3 (by decide) (e ▸ hk)),k3⟩,h4⟩
theorem OwnR.len_ne {e:TypeId}{w w':World}{v u:Value}{A:List Rec}(h:OwnR e w v (A++[r])) (k:OwnR e w' u A):v≠u:=fun h1=>by
 have e1:=h.form
 have e2:=k.form
 rw[h1,e2] at e1;have e3:=(Value.slice.inj e1).2.1
 rw[List.length_append,List.length_singleton] at e3;omega
end
theorem bool_one (a:Bool):∀ u∈([.bool a]:List Value),u.oneCell'=true:=by
 intro u hu;rw[List.mem_singleton.1 hu]
 rfl
theorem does_add (h:WS w0 w x p l most B S sv ss d g va vg vm ve W) (hss:ss.length≤m+2) (hp:WPl W d g m) (hm:m≤62) (hH:Handle w0) (hT:TabE w0) (rs:List Rec) (hl:rs.length≤60) (hok:∀ r∈rs,Rec.Ok r) (ra:Option Addr) (rc:Nat) (hrc:RecsAt w ra rs) (hrb:rs≠[]→∀ y,ra=some y→y.block<w0.heap.size) (a b:Int) (fv:Value) :
  Calls Tryz.prog 23 #[.pointer (some ⟨x,0,none⟩),.agg #[.int .i64 0,.int .i64 a,.int .i64 b,.slice ra rs.length rc,fv]] w (DoesAt w0 x p most m):=by
 obtain⟨n,k,hnk,hop⟩:=op_add2 (x:=x) (p:=p) (l:=l) (most:=most) hp hm hH hT ra rs rc hl hok
 have HKN:=Lib.hid hp.kn
 have HNK:=Lib.hid hnk
 have HH:=Lib.hid h
 have HSS:=Lib.hid hss
 have HM:=Lib.hid hm
 have HHN:=Lib.hid hH
 have HRB:=Lib.hid hrb
 have HRK:=Lib.hid hok
 obtain⟨R,hR⟩:∃ R,rs.length=R:=⟨_,rfl⟩
 rw[hR] at hop hl ⊢
 have HOP:=Lib.hid hop
 have HR:=Lib.hid hR
 obtain⟨N,hN⟩:∃ N,W.all.length=N:=⟨_,rfl⟩
 have HN:=Lib.hid hN
 have hN2:N≤3780:=by have:=HKN.out.many;omega
 have HN2:=Lib.hid hN2
 have hal:=(Chg.refl Nil w).alloc (.cells #[.int .i64 0,.int .i64 a,.int .i64 b,.slice ra R rc,fv] 59)
 have hbx:Box (w.alloc (.cells #[.int .i64 0,.int .i64 a,.int .i64 b,.slice ra R rc,fv] 59)) w.heap.size [.int .i64 0,.int .i64 a,.int .i64 b,.slice ra R rc,fv] 59:=Box.new w _ _
 have HRC:=Lib.hid (RecsAt.chg' hrc hal (fun _ _ _ h=>h))
 clear h hss hp hm hH hop hnk hrb hok hR hN hrc hN2;go_enter Tryz.func23,Tryz.ntmps23
 go_upto_region 1 with fail;obtain⟨b3,hb3⟩:∃ b3,w.heap.size=b3:=⟨_,rfl⟩
 generalize hw1:w.alloc (.cells #[.int .i64 0,.int .i64 a,.int .i64 b,.slice ra R rc,fv] 59)=w1 at *;rw[hb3] at hbx
 rw[hb3];have b0:=hbx.cell (j:=0) rfl
 have b3':=hbx.cell (j:=3) rfl
 have HBX:=Lib.hid hbx
 have HS1:=Lib.hid (HH.out.side (hal.weak (fun _ h=>h.elim)))
 obtain⟨B2,hB2⟩:∃ B2:Nat→Prop,(fun k=>B k∨(w.heap.size≤k∧k<w1.heap.size))=B2:=⟨_,rfl⟩
 have HB3:Hid (B2 b3):=by rw[←hB2];exact .inr ⟨Nat.le_of_eq hb3,(Array.getElem?_eq_some_iff.1 hbx).1⟩
 rw[hB2] at HS1;have HXB:Hid (B2 x):=HS1.out.bw x (.inl rfl)
 have c1:w1.cell? ⟨x,1,none⟩=some (.pointer (some ⟨l,0,none⟩)):=HS1.out.wm.c.cell (j:=1) rfl
 have HRO:Hid (∀ w',Chg (Off B2) w1 w'→RecsAt w' ra rs):=fun w' hw=>RecsAt.chg' HRC.out hw (fun hne y hy ho=>ho (HS1.out.b0 _ (HRB.out hne y hy)))
 clear hal hbx hb3 hw1 hB2 HH;go_upto_region 6 with fail;refine Ch.wp_region_chain _ (Chg (Off B2)) [6] (OpF w0 w1 x p l most B2 S sv ss d g va vg vm ve W (fun d' g'=>ResOk W (W.add rs) k d' g' m)) (by kernel_rfl) (fun _=>Chg.refl _ _) (fun _ _ _ h k=>h.trans k (fun _ h=>.inl h)) [[],[0],[1],[2],[],[4],[3,5],[6],[7],[7],[8],[9]] rfl (by kernel_rfl) (by kernel_rfl) (Chg.refl _ _).drew ?_ ?_
 ·exact HS1.out.nil (Chg.refl Nil _).drew
 iterate 3 ((with_reducible apply Ch.Walk.eq);(case hd=>rfl);(case hi=>rfl);case h=>(intro w2 hw2 N hN;simp only[Ch.depB];go_simp;(try go_bits);with_reducible exact hN _ (Chg.refl _ _) (fun _ h=>h)))
 ((with_reducible apply Ch.Walk.eq);(case hd=>rfl);(case hi=>rfl);case h=>(intro w2 hw2 N hN;(have hq:=hw2.cell c1 (fun h=>h HXB.out));simp only[Ch.depB];go_simp;(try go_bits);with_reducible exact hN _ (Chg.refl _ _) (fun _ h=>h)))
 ((with_reducible apply Ch.Walk.eq);(case hd=>rfl);(case hi=>rfl);case h=>(intro w2 hw2 N hN;simp only[Ch.depB];go_simp;(try go_bits);with_reducible exact hN _ (Chg.refl _ _) (fun _ h=>h)))
 ((with_reducible apply Ch.Walk.eq);(case hd=>rfl);(case hi=>rfl);case h=>(intro w2 hw2 N hN;(have hq:=hw2.cell b3' (fun h=>h HB3.out));simp only[Ch.depB];go_simp;(try go_bits);with_reducible exact hN _ (Chg.refl _ _) (fun _ h=>h)))
 refine Ch.Walk.chainE 0 (c:=.tuple #[.int .i64 n,errD k]) rfl rfl ?_ ?_
 ·intro w6 hw6 vs hvs hF N hN;obtain rfl:=List.eq_nil_of_length_eq_zero hvs
  have F3:WS w0 w6 x p l most B2 S sv ss d g va vg vm ve W:=hF
  have hdo:=HOP.out _ _ _ _ _ _ _ _ _ F3 (HRO.out w6 hw6)
  have HDO:=Lib.hid hdo
  clear F3 hF hdo;simp only[Ch.depB,Ch.depC,Nat.reduceBEq,Nat.reduceAdd]
  go_simp;refine HDO.out.mono ?_
  rintro e w7 ⟨rfl,h2⟩
  exact⟨_,rfl,hN _ h2.off ⟨_,h2⟩⟩
 iterate 5 ((with_reducible apply Ch.Walk.eq);(case hd=>rfl);(case hi=>rfl);case h=>(intro w2 hw2 N hN;simp only[Ch.depB];go_simp;(try go_bits);with_reducible exact hN _ (Chg.refl _ _) (fun _ h=>h)))
 intro w6 hw6;simp only[List.nil_append,List.cons_append,Ch.Fin,List.map_cons,List.map_nil,List.getD_cons_zero,List.getD_cons_succ]
 rintro⟨w7,hf⟩
 have HF:=Lib.hid hf
 have HBX6:=Lib.hid (HBX.out.chg hw6 (fun h=>h HB3.out))
 have HRC6:=Lib.hid (HRO.out w6 hw6)
 clear hf hw6 b0 b3' c1 HRO HBX HS1 HOP;by_cases hk:k=0
 ·obtain rfl:=hk
  have hn:=HNK.out rfl
  rw[HN.out] at hn;subst hn;have he:errD 0 = .nilIface:=rfl
  obtain⟨S',sv',ss',d',g',hs6,hl6,hq,-⟩:=HF.out
  have HS6:=Lib.hid hs6
  have HL6:=Lib.hid hl6
  have HRS:=Lib.hid (hq.new (W1:=W.add rs) rfl)
  have c3:w6.cell? ⟨x,3,none⟩=some va:=hs6.wm.c.cell (j:=3) rfl
  obtain⟨aa,ac,hva,-,-⟩:=hs6.wm.a.valAt
  rw[HN.out] at hva;rw[hva] at c3;clear hs6 hl6 hq HF HNK hva;have hbne:((N:Int) != (N:Int))=false:=by simp
  rw[he];go_wp2_with fail;go_loopw [7] (fun iv wr=>∃ (wq:World) (t:Nat) (B1:Nat→Prop) (va1 vg1 vm1:Value),wq=wr∧iv = .int .i64 (t:Nat)∧Hid (t≤R)∧Hid (WS w0 wr x p l most B1 S' sv' ss' d' g' va1 vg1 vm1 ve (W.add (rs.take t)))∧Hid (RecsAt wr ra rs)∧Hid (Box wr b3 [.int .i64 0,.int .i64 a,.int .i64 b,.slice ra R rc,fv] 59)) (fun iv _=>R-(RowKit.intOf iv).toNat)
  case atStart=>
   refine⟨_,0,B2,va,vg,vm,rfl,rfl,Nat.zero_le _,?_,HRC6.out,HBX6.out⟩
   have hw:W.add (rs.take 0)=W:=by simp[Wd.add,numbered]
   rw[hw];exact HS6.out
  case round=>
   obtain⟨wr,t,B1,va1,vg1,vm1,rfl,rfl,HT,HS7,HRC7,HBX7⟩:=hrel
   have b3':=HBX7.out.cell (j:=3) rfl
   by_cases htl:t<R
   ·have htt:(t:Int)<(R:Int):=by omega
    have htr:t<rs.length:=by rw[HR.out];exact htl
    obtain⟨rb,ro,hra,hrz⟩:=HRC7.out t htr
    have hadd:=Wd.add_succ W rs htr
    have hrk:=HRK.out _ (List.getElem_mem htr)
    obtain⟨r,hr⟩:∃ r,rs[t]=r:=⟨_,rfl⟩
    rw[hr] at hrz hadd hrk
    have hal1:(W.add (rs.take t)).all.length=N+t:=by
     show (W.all++numbered _ (rs.take t)).length=N+t
     rw[List.length_append,numbered_length,List.length_take,HN.out];omega
    have hgl1:(W.add (rs.take t)).gone.length=N+t:=by
     show (W.gone++List.replicate (rs.take t).length false).length=N+t
     rw[List.length_append,List.length_replicate,List.length_take,HKN.out.gl,HN.out];omega
    have hml1:(W.add (rs.take t)).may.length=N+t:=by
     show (W.may++List.replicate (rs.take t).length false).length=N+t
     rw[List.length_append,List.length_replicate,List.length_take,HKN.out.ml,HN.out];omega
    have HAL1:=Lib.hid hal1
    have HGL1:=Lib.hid hgl1
    have HML1:=Lib.hid hml1
    rw[HN.out] at hadd;have HADD:=Lib.hid hadd
    have HTL:=Lib.hid htl
    have hnt:N+t≤4000:=by have:=HN2.out;omega
    have hnt2:((N:Nat):Int)≤4000:=by omega
    subst hra;obtain⟨r0,rt,rk,rkey,rg,rv⟩:=r
    have z0:=hrz 0 _ rfl
    have z1:=hrz 1 _ rfl
    have z2:=hrz 2 _ rfl
    have z3:=hrz 3 _ rfl
    have z4:=hrz 4 _ rfl
    have z5:=hrz 5 _ rfl
    rw[Nat.add_zero] at z0;have halr:=(Chg.refl Nil wr).alloc (.cells #[.int .i64 r0,.int .i64 rt,.bool rk,.string rkey,.bool rg,.string rv] 37)
    have hbr:Box (wr.alloc (.cells #[.int .i64 r0,.int .i64 rt,.bool rk,.string rkey,.bool rg,.string rv] 37)) wr.heap.size [.int .i64 r0,.int .i64 rt,.bool rk,.string rkey,.bool rg,.string rv] 37:=Box.new wr _ _
    clear hrz hadd hrk hr hal1 hgl1 hml1 htr htl;go_upto_region 14 with fail;clear z0 z1 z2 z3 z4 z5 b3';obtain⟨gy,hgy⟩:∃ gy,wr.heap.size=gy:=⟨_,rfl⟩
    generalize hw7:wr.alloc (.cells #[.int .i64 r0,.int .i64 rt,.bool rk,.string rkey,.bool rg,.string rv] 37)=w5 at *;rw[hgy] at hbr
    rw[hgy];have y0:=hbr.cell (j:=0) rfl
    have f0:=hbr.free 0
    have hbr2:=hbr.set 0 (.int .i64 ((N:Nat)+(t:Nat)))
    have hc5:Chg Nil wr (w5.setCell ⟨gy,0,none⟩ (.int .i64 ((N:Nat)+(t:Nat)))):=halr.trans ((Chg.refl (fun k=>k=gy) _).setCell (.inl rfl) _) (fun k hk=>.inr (by rw[hk,hgy];exact Nat.le_refl _))
    go_upto_region 15 with fail;clear y0 f0 halr hbr hw7;generalize hw8:w5.setCell ⟨gy,0,none⟩ (.int .i64 ((N:Nat)+(t:Nat)))=w8 at *
    obtain⟨n0,hn0⟩:∃ n0,w8.heap.size=n0:=⟨_,rfl⟩
    have HS8:=Lib.hid (HS7.out.nil hc5)
    have HBX8:=Lib.hid (HBX7.out.chg hc5 (fun h=>h))
    have HRC8:=Lib.hid (RecsAt.chg' HRC7.out hc5 (fun _ _ _ h=>h))
    have HLT:Hid (∀ k,WHas x va1 vg1 vm1 ve k→k<n0):=fun k hk=>by rw[←hn0];exact HS8.out.wm.lt k hk
    have HZ0:Hid (w0.heap.size≤n0):=by have:=HS8.out.ch.size;unfold Hid;omega
    have HNX:Hid (¬(va1.ownBlock=some x∨vg1.ownBlock=some x∨vm1.ownBlock=some x)):=by
     have hne:=HS8.out.wm.ne
     rintro (e | e | e)
     ·exact hne.1 e
     ·exact hne.2.1 e
     ·exact hne.2.2.1 e
    have HNG:Hid (¬(va1.ownBlock=some gy∨vg1.ownBlock=some gy∨vm1.ownBlock=some gy)):=by
     rintro (e | e | e)
     ·have:=HS7.out.wm.lt gy (.inr (.inl e));omega
     ·have:=HS7.out.wm.lt gy (.inr (.inr (.inl e)));omega
     ·have:=HS7.out.wm.lt gy (.inr (.inr (.inr (.inl e))));omega
    have HGM:=Lib.hid HS8.out.wm.gm
    have HTT:Hid (∀ k,(va1.ownBlock=some k∨vg1.ownBlock=some k∨vm1.ownBlock=some k)→k<n0):=by
     rintro k (e | e | e)
     ·exact HLT.out k (.inr (.inl e))
     ·exact HLT.out k (.inr (.inr (.inl e)))
     ·exact HLT.out k (.inr (.inr (.inr (.inl e))))
    have y0:=hbr2.cell (j:=0) rfl
    have y1:=hbr2.cell (j:=1) rfl
    have y2:=hbr2.cell (j:=2) rfl
    have y3:=hbr2.cell (j:=3) rfl
    have y4:=hbr2.cell (j:=4) rfl
    have y5:=hbr2.cell (j:=5) rfl
    have x3:w8.cell? ⟨x,3,none⟩=some va1:=HS8.out.wm.c.cell (j:=3) rfl
    have x4:w8.cell? ⟨x,4,none⟩=some vg1:=HS8.out.wm.c.cell (j:=4) rfl
    have x5:w8.cell? ⟨x,5,none⟩=some vm1:=HS8.out.wm.c.cell (j:=5) rfl
    obtain⟨W1,hW1⟩:∃ W1,W.add (rs.take t)=W1:=⟨_,rfl⟩
    obtain⟨r1,hr1⟩:∃ r1:Rec,(⟨(N:Nat)+(t:Nat),rt,rk,rkey,rg,rv⟩:Rec)=r1:=⟨_,rfl⟩
    have HRD:Hid (r1.cells=[.int .i64 ((N:Nat)+(t:Nat)),.int .i64 rt,.bool rk,.string rkey,.bool rg,.string rv]):=by rw[←hr1];rfl
    have HADD2:Hid (W.add (rs.take (t+1)) = { W1 with all:=W1.all++[r1],gone:=W1.gone++[false],may:=W1.may++[false] }):=by
     rw[←hW1,←hr1];exact HADD.out
    rw[hW1] at HS8 HAL1 HGL1 HML1
    have HS7L:Hid (x<gy):=by have:=HS7.out.wm.lt x (.inl rfl);unfold Hid;omega
    clear hbr2 hc5 hgy hw8 HADD HS7 HBX7 HRC7 hr1 hW1;have HN0:=Lib.hid hn0
    have HNT:=Lib.hid hnt
    clear hn0 hnt hnt2;have HSH:Hid (ShX x p l most ve W1 w8):=⟨va1,vg1,vm1,HS8.out.wm.c⟩
    have HDA:Hid (∀ w v,OwnR 37 w v (W1.all++[r1])→v≠va1):=fun w v h=>h.len_ne HS8.out.wm.a
    have HGX:Hid (gy≠x):=fun e=>by have:=HS7L.out;omega
    refine Ch.wp_region_chain _ (XR (fun k=>(va1.ownBlock=some k∨vg1.ownBlock=some k∨vm1.ownBlock=some k)∨k=x) (ShX x p l most ve W1) (StoX x va1 vg1 vm1)) [9,15,21,24,27,30] (AddX x p l n0 most va1 vg1 vm1 ve W1 r1) (by kernel_rfl) (fun _=>XR.refl _) (fun _ _ _ h k=>h.trans k) [[],[],[],[],[3],[4],[5],[],[7],[6,8],[],[10],[11],[12],[],[13,14],[],[16],[17],[18],[],[19,20],[0],[22],[23,9],[1],[25],[26,15],[2],[28],[29,21]] rfl (by kernel_rfl) (by kernel_rfl) (XR.nil HSH.out (Chg.refl Nil _).drew) ?_ ?_
    ·exact AddX.nil (Chg.refl Nil _).drew [] ⟨⟨HS8.out.wm.a,HS8.out.wm.g,HS8.out.wm.m⟩,HS8.out.wm.c⟩
    iterate 6 ((with_reducible apply Ch.Walk.eq);(case hd=>rfl);(case hi=>rfl);case h=>(intro w2 hw2 N hN;simp only[Ch.depB];go_simp;(try go_bits);with_reducible exact hN _ (XR.refl _) (fun _ h=>h)))
    refine Ch.Walk.sat (fun v w=>StoX x va1 vg1 vm1 w∨v=va1) (fun _ _ _ h k=>h.imp k.st id) rfl rfl ?_ ?_
    ·intro w2 hw2 N' hN';have hsh:=hw2.sh HSH.out
     obtain⟨u3,u4,u5,hb⟩:=hsh
     have q3:w2.cell? ⟨x,3,none⟩=some u3:=hb.cell (j:=3) rfl
     have HQ:=Lib.hid q3
     clear hb;simp only[Ch.depB,Ch.depC,Nat.reduceBEq,Nat.reduceAdd]
     go_simp;refine hN' _ _ ?_ (XR.refl _) (fun _ h=>h)
     by_cases hu:u3=va1
     ·exact .inr hu
     ·exact .inl (.inl (by rw[HQ.out];exact fun e=>hu (Option.some.inj e)))
    simp only[List.nil_append,List.cons_append]
    (with_reducible apply Ch.Walk.eq);(case hd=>rfl);(case hi=>rfl);case h=>
     intro w2 hw2 N hN;have hgn:¬((va1.ownBlock=some gy∨vg1.ownBlock=some gy∨vm1.ownBlock=some gy)∨gy=x):=fun h=>h.elim HNG.out HGX.out
     have q0:=hw2.c.cell y0 hgn
     have q1:=hw2.c.cell y1 hgn
     have q2:=hw2.c.cell y2 hgn
     have q3:=hw2.c.cell y3 hgn
     have q4:=hw2.c.cell y4 hgn
     have q5:=hw2.c.cell y5 hgn
     clear hgn;simp only[Ch.depB,Ch.depC,Nat.reduceBEq,Nat.reduceAdd]
     go_simp;exact hN _ (XR.refl _) (fun _ h=>h)
    simp only[List.nil_append,List.cons_append]
    refine Ch.Walk.sat (NewS n0 r1.cells 37) (fun _ _ _ h k=>h.keep k.c (fun k hk=>hk.elim (HTT.out k) (fun e=>by rw[e];exact HLT.out x (.inl rfl)))) rfl rfl ?_ ?_
    ·intro w2 hw2 N' hN';have hal:=(Chg.refl Nil w2).alloc (.cells #[.int .i64 ((N:Nat)+(t:Nat)),.int .i64 rt,.bool rk,.string rkey,.bool rg,.string rv] 37)
     have HXR:=Lib.hid (XR.nil (T:=(fun k=>(va1.ownBlock=some k∨vg1.ownBlock=some k∨vm1.ownBlock=some k)∨k=x)) (va:=va1) (vg:=vg1) (vm:=vm1) (hw2.sh HSH.out) hal)
     have HSZ:=Lib.hid hw2.c.size
     simp only[Ch.depB,Ch.depC,Nat.reduceBEq,Nat.reduceAdd]
     go_simp;exact hN' _ _ ⟨_,rfl,by rw[←HN0.out];exact HSZ.out,by rw[HRD.out];exact Box.new w2 [.int .i64 ((N:Nat)+(t:Nat)),.int .i64 rt,.bool rk,.string rkey,.bool rg,.string rv] _⟩ HXR.out (fun vs hF=>AddX.nil hal vs hF)
    simp only[List.nil_append,List.cons_append]
    refine Ch.Walk.chain 0 rfl rfl ?_ ?_
    ·intro w9 hw9 vs hvs hF N' hN';obtain rfl:=List.eq_nil_of_length_eq_zero hvs
     have HF9:=Lib.hid hF
     have HZ9:=Lib.hid hw9.c.size
     clear hF hw9 hvs;simp only[Ch.depB,Ch.depC,Nat.reduceBEq,Nat.reduceAdd]
     intro v6 h6 v8 h8;obtain⟨⟨f1,f2,f3⟩,f0⟩:=HF9.out
     have f0:Box w9 x (W1.cells p l most va1 vg1 vm1 ve) 56:=f0
     obtain rfl:v6=va1:=h6.elim (fun h=>absurd h (StoX.no f0)) id
     obtain⟨q8,rfl,hq8,hb8⟩:=h8
     refine Ch.if_append_row rfl (.tmp 54) (.tmp 56) 33 33 rfl recsT _ Tryz.underlying33 (by intro _;simp) v6 W1.all.length (W1.all.flatMap Rec.cells) rfl f1 (.slice (some ⟨q8,0,none⟩) 1 1) 1 r1.cells rfl (Source.box hb8 rfl (Rec.cells_one _)) (by have:=HAL1.out;have:=HNT.out;unfold maxLen;omega) (by have:=HAL1.out;have:=HNT.out;omega) (fun v' w' h1 h2=>?_)
     have hbn:=f0.chg h2.chg (fun e=>box_row_ne' f0 f1 (by decide) e)
     refine hN' _ _ ⟨h2.chg.weak (fun k hk=>.inl (.inl (.inl hk))),fun _=>⟨v6,vg1,vm1,hbn⟩,fun h=>absurd h (StoX.no f0)⟩ ⟨⟨⟨?_,fun k hk=>(h2.own k hk).imp id fun h=>by have:=HZ9.out;have:=HN0.out;omega⟩,f2.chg h2.chg (fun k hk e=>rows_ne f1 f2 (by decide) e hk),f3.chg h2.chg (fun k hk e=>rows_ne f1 f3 (by decide) e hk)⟩,hbn⟩
     unfold OwnR;rw[List.length_append,List.flatMap_append,List.flatMap_cons,List.flatMap_nil,List.append_nil];exact h1
    simp only[List.nil_append,List.cons_append]
    iterate 3 ((with_reducible apply Ch.Walk.eq);(case hd=>rfl);(case hi=>rfl);case h=>(intro w2 hw2 N hN;simp only[Ch.depB];go_simp;(try go_bits);with_reducible exact hN _ (XR.refl _) (fun _ h=>h)))
    refine Ch.Walk.sat (fun v w=>StoX x va1 vg1 vm1 w∨v=vg1) (fun _ _ _ h k=>h.imp k.st id) rfl rfl ?_ ?_
    ·intro w2 hw2 N' hN';have hsh:=hw2.sh HSH.out
     obtain⟨u3,u4,u5,hb⟩:=hsh
     have q3:w2.cell? ⟨x,4,none⟩=some u4:=hb.cell (j:=4) rfl
     have HQ:=Lib.hid q3
     clear hb;simp only[Ch.depB,Ch.depC,Nat.reduceBEq,Nat.reduceAdd]
     go_simp;refine hN' _ _ ?_ (XR.refl _) (fun _ h=>h)
     by_cases hu:u4=vg1
     ·exact .inr hu
     ·exact .inl (.inr <| .inl (by rw[HQ.out];exact fun e=>hu (Option.some.inj e)))
    simp only[List.nil_append,List.cons_append]
    refine Ch.Walk.sat (NewS n0 [.bool false] 4) (fun _ _ _ h k=>h.keep k.c (fun k hk=>hk.elim (HTT.out k) (fun e=>by rw[e];exact HLT.out x (.inl rfl)))) rfl rfl ?_ ?_
    ·intro w2 hw2 N' hN';have hal:=(Chg.refl Nil w2).alloc (.cells #[.bool false] 4)
     have HXR:=Lib.hid (XR.nil (T:=(fun k=>(va1.ownBlock=some k∨vg1.ownBlock=some k∨vm1.ownBlock=some k)∨k=x)) (va:=va1) (vg:=vg1) (vm:=vm1) (hw2.sh HSH.out) hal)
     have HSZ:=Lib.hid hw2.c.size
     simp only[Ch.depB,Ch.depC,Nat.reduceBEq,Nat.reduceAdd]
     go_simp;exact hN' _ _ ⟨_,rfl,by rw[←HN0.out];exact HSZ.out,Box.new w2 [.bool false] _⟩ HXR.out (fun vs hF=>AddX.nil hal vs hF)
    simp only[List.nil_append,List.cons_append]
    refine Ch.Walk.chain 1 rfl rfl ?_ ?_
    ·intro w9 hw9 vs hvs hF N' hN';have ev:=eq1 hvs
     generalize vs.getD 0 undef=v1 at ev;subst ev;have HF9:=Lib.hid hF
     have HZ9:=Lib.hid hw9.c.size
     clear hF hw9 hvs;simp only[Ch.depB,Ch.depC,Nat.reduceBEq,Nat.reduceAdd]
     intro v6 h6 v8 h8;obtain⟨⟨⟨f1,k1⟩,f2,f3⟩,f0⟩:=HF9.out
     have f0:Box w9 x (W1.cells p l most va1 vg1 vm1 ve) 56:=f0
     obtain rfl:v6=vg1:=h6.elim (fun h=>absurd h (StoX.no f0)) id
     obtain⟨q8,rfl,hq8,hb8⟩:=h8
     refine Ch.if_append_row rfl (.tmp 61) (.tmp 62) 54 54 rfl boolT _ Tryz.underlying54 (by intro _;simp) v6 W1.gone.length (W1.gone.map Value.bool) rfl f2 (.slice (some ⟨q8,0,none⟩) 1 1) 1 [.bool false] rfl (Source.box hb8 rfl (bool_one _)) (by have:=HGL1.out;have:=HNT.out;unfold maxLen;omega) (by have:=HGL1.out;have:=HNT.out;omega) (fun v' w' h1 h2=>?_)
     have hbn:=f0.chg h2.chg (fun e=>box_row_ne' f0 f2 (by decide) e)
     refine hN' _ _ ⟨h2.chg.weak (fun k hk=>.inl (.inl (.inr (.inl hk)))),fun _=>⟨va1,v6,vm1,hbn⟩,fun h=>absurd h (StoX.no f0)⟩ ⟨⟨⟨ownsRow_chg f1 h2.chg (fun k hk e=>rows_ne f1 f2 (by decide) hk e),k1⟩,⟨?_,fun k hk=>(h2.own k hk).imp id fun h=>by have:=HZ9.out;have:=HN0.out;omega⟩,f3.chg h2.chg (fun k hk e=>HGM.out k e hk)⟩,hbn⟩
     unfold OwnL;rw[List.length_append,List.map_append];exact h1
    simp only[List.nil_append,List.cons_append]
    iterate 3 ((with_reducible apply Ch.Walk.eq);(case hd=>rfl);(case hi=>rfl);case h=>(intro w2 hw2 N hN;simp only[Ch.depB];go_simp;(try go_bits);with_reducible exact hN _ (XR.refl _) (fun _ h=>h)))
    refine Ch.Walk.sat (fun v w=>StoX x va1 vg1 vm1 w∨v=vm1) (fun _ _ _ h k=>h.imp k.st id) rfl rfl ?_ ?_
    ·intro w2 hw2 N' hN';have hsh:=hw2.sh HSH.out
     obtain⟨u3,u4,u5,hb⟩:=hsh
     have q3:w2.cell? ⟨x,5,none⟩=some u5:=hb.cell (j:=5) rfl
     have HQ:=Lib.hid q3
     clear hb;simp only[Ch.depB,Ch.depC,Nat.reduceBEq,Nat.reduceAdd]
     go_simp;refine hN' _ _ ?_ (XR.refl _) (fun _ h=>h)
     by_cases hu:u5=vm1
     ·exact .inr hu
     ·exact .inl (.inr <| .inr (by rw[HQ.out];exact fun e=>hu (Option.some.inj e)))
    simp only[List.nil_append,List.cons_append]
    refine Ch.Walk.sat (NewS n0 [.bool false] 4) (fun _ _ _ h k=>h.keep k.c (fun k hk=>hk.elim (HTT.out k) (fun e=>by rw[e];exact HLT.out x (.inl rfl)))) rfl rfl ?_ ?_
    ·intro w2 hw2 N' hN';have hal:=(Chg.refl Nil w2).alloc (.cells #[.bool false] 4)
     have HXR:=Lib.hid (XR.nil (T:=(fun k=>(va1.ownBlock=some k∨vg1.ownBlock=some k∨vm1.ownBlock=some k)∨k=x)) (va:=va1) (vg:=vg1) (vm:=vm1) (hw2.sh HSH.out) hal)
     have HSZ:=Lib.hid hw2.c.size
     simp only[Ch.depB,Ch.depC,Nat.reduceBEq,Nat.reduceAdd]
     go_simp;exact hN' _ _ ⟨_,rfl,by rw[←HN0.out];exact HSZ.out,Box.new w2 [.bool false] _⟩ HXR.out (fun vs hF=>AddX.nil hal vs hF)
    simp only[List.nil_append,List.cons_append]
    refine Ch.Walk.chain 2 rfl rfl ?_ ?_
    ·intro w9 hw9 vs hvs hF N' hN';have ev:=eq2 hvs
     generalize vs.getD 0 undef=v1 at ev;generalize vs.getD 1 undef=v2 at ev;subst ev;have HF9:=Lib.hid hF
     have HZ9:=Lib.hid hw9.c.size
     clear hF hw9 hvs;simp only[Ch.depB,Ch.depC,Nat.reduceBEq,Nat.reduceAdd]
     intro v6 h6 v8 h8;obtain⟨⟨⟨f1,k1⟩,⟨f2,k2⟩,f3⟩,f0⟩:=HF9.out
     have f0:Box w9 x (W1.cells p l most va1 vg1 vm1 ve) 56:=f0
     obtain rfl:v6=vm1:=h6.elim (fun h=>absurd h (StoX.no f0)) id
     obtain⟨q8,rfl,hq8,hb8⟩:=h8
     have hn2:∀ k,v2.ownBlock=some k→¬v6.ownBlock=some k:=fun k hk e=>by
      rcases k2 k hk with h | h
      ·exact HGM.out k h e
      ·have:=HTT.out k (.inr (.inr e));omega
     refine Ch.if_append_row rfl (.tmp 67) (.tmp 68) 54 54 rfl boolT _ Tryz.underlying54 (by intro _;simp) v6 W1.may.length (W1.may.map Value.bool) rfl f3 (.slice (some ⟨q8,0,none⟩) 1 1) 1 [.bool false] rfl (Source.box hb8 rfl (bool_one _)) (by have:=HML1.out;have:=HNT.out;unfold maxLen;omega) (by have:=HML1.out;have:=HNT.out;omega) (fun v' w' h1 h2=>?_)
     have hbn:=f0.chg h2.chg (fun e=>box_row_ne' f0 f3 (by decide) e)
     refine hN' _ _ ⟨h2.chg.weak (fun k hk=>.inl (.inl (.inr (.inr hk)))),fun _=>⟨va1,vg1,v6,hbn⟩,fun h=>absurd h (StoX.no f0)⟩ ⟨⟨⟨ownsRow_chg f1 h2.chg (fun k hk e=>rows_ne f1 f3 (by decide) hk e),k1⟩,⟨f2.chg h2.chg hn2,k2⟩,⟨?_,fun k hk=>(h2.own k hk).imp id fun h=>by have:=HZ9.out;have:=HN0.out;omega⟩,fun k hk e=>?_⟩,hbn⟩
     ·unfold OwnL;rw[List.length_append,List.map_append];exact h1
     ·rcases h2.own k e with h | h
      ·exact hn2 k hk h
      ·have:=ownsRow_lt f2 k hk;omega
    simp only[List.nil_append,List.cons_append]
    iterate 2 ((with_reducible apply Ch.Walk.eq);(case hd=>rfl);(case hi=>rfl);case h=>(intro w2 hw2 N hN;simp only[Ch.depB];go_simp;(try go_bits);with_reducible exact hN _ (XR.refl _) (fun _ h=>h)))
    refine Ch.Walk.chainS 3 rfl rfl ?_ ?_
    ·intro w9 hw9 vs hvs hF N' hN';have ev:=eq3 hvs
     generalize vs.getD 0 undef=v1 at ev;generalize vs.getD 1 undef=v2 at ev;generalize vs.getD 2 undef=v3 at ev;subst ev;have fa:AddF n0 va1 vg1 vm1 W1.all W1.gone W1.may r1 [v1,v2,v3] w9:=hF.1
     have f0:Box w9 x (W1.cells p l most va1 vg1 vm1 ve) 56:=hF.2
     have hne:v1≠va1:=HDA.out _ _ fa.1.1
     have e1:v1 = .slice (vA v1) (vN v1) (vC v1):=form_eq (ownsRow_form fa.1.1)
     have hsc:Chg (fun k=>k=x) w9 (w9.setCell ⟨x,3,none⟩ v1):=(Chg.refl (fun k=>k=x) w9).setCell (p:=⟨x,3,none⟩) (.inl rfl) _
     have hbn:Box (w9.setCell ⟨x,3,none⟩ v1) x (W1.cells p l most v1 vg1 vm1 ve) 56:=f0.set 3 v1
     have HXR:Hid (XR (fun k=>(va1.ownBlock=some k∨vg1.ownBlock=some k∨vm1.ownBlock=some k)∨k=x) (ShX x p l most ve W1) (StoX x va1 vg1 vm1) w9 (w9.setCell ⟨x,3,none⟩ v1)):=⟨hsc.weak (fun k hk=>.inl (.inr hk)),fun _=>⟨_,_,_,hbn⟩,fun _=>StoX.yes hbn hne⟩
     have HFX:Hid (AddX x p l n0 most va1 vg1 vm1 ve W1 r1 [v1,v2,v3,undef] (w9.setCell ⟨x,3,none⟩ v1)):=⟨fa.at3 f0 hsc,hbn⟩
     have cc:=f0.cell (j:=3) rfl
     have ff:=f0.free 3
     clear fa f0 hne hsc hbn hF hw9 hvs;generalize vA v1=a1 at e1;generalize vN v1=k1 at e1;generalize vC v1=c1 at e1;subst e1;simp only[Ch.depB,Ch.depC,Nat.reduceBEq,Nat.reduceAdd]
     go_simp;exact hN' _ HXR.out HFX.out
    simp only[List.nil_append,List.cons_append]
    iterate 2 ((with_reducible apply Ch.Walk.eq);(case hd=>rfl);(case hi=>rfl);case h=>(intro w2 hw2 N hN;simp only[Ch.depB];go_simp;(try go_bits);with_reducible exact hN _ (XR.refl _) (fun _ h=>h)))
    refine Ch.Walk.chainS 4 rfl rfl ?_ ?_
    ·intro w9 hw9 vs hvs hF N' hN';have ev:=eq4 hvs
     generalize vs.getD 0 undef=v1 at ev;generalize vs.getD 1 undef=v2 at ev;generalize vs.getD 2 undef=v3 at ev;generalize vs.getD 3 undef=v4 at ev;subst ev;have fa:AddF n0 va1 vg1 vm1 W1.all W1.gone W1.may r1 [v1,v2,v3] w9:=hF.1
     have f0:Box w9 x (W1.cells p l most v1 vg1 vm1 ve) 56:=hF.2
     have hne:v1≠va1:=HDA.out _ _ fa.1.1
     have e1:v2 = .slice (vA v2) (vN v2) (vC v2):=form_eq (ownsRow_form fa.2.1.1)
     have hsc:Chg (fun k=>k=x) w9 (w9.setCell ⟨x,4,none⟩ v2):=(Chg.refl (fun k=>k=x) w9).setCell (p:=⟨x,4,none⟩) (.inl rfl) _
     have hbn:Box (w9.setCell ⟨x,4,none⟩ v2) x (W1.cells p l most v1 v2 vm1 ve) 56:=f0.set 4 v2
     have HXR:Hid (XR (fun k=>(va1.ownBlock=some k∨vg1.ownBlock=some k∨vm1.ownBlock=some k)∨k=x) (ShX x p l most ve W1) (StoX x va1 vg1 vm1) w9 (w9.setCell ⟨x,4,none⟩ v2)):=⟨hsc.weak (fun k hk=>.inl (.inr hk)),fun _=>⟨_,_,_,hbn⟩,fun _=>StoX.yes hbn hne⟩
     have HFX:Hid (AddX x p l n0 most va1 vg1 vm1 ve W1 r1 [v1,v2,v3,v4,undef] (w9.setCell ⟨x,4,none⟩ v2)):=⟨fa.at3 f0 hsc,hbn⟩
     have cc:=f0.cell (j:=4) rfl
     have ff:=f0.free 4
     clear fa f0 hne hsc hbn hF hw9 hvs;generalize vA v2=a1 at e1;generalize vN v2=k1 at e1;generalize vC v2=c1 at e1;subst e1;simp only[Ch.depB,Ch.depC,Nat.reduceBEq,Nat.reduceAdd]
     go_simp;exact hN' _ HXR.out HFX.out
    simp only[List.nil_append,List.cons_append]
    iterate 2 ((with_reducible apply Ch.Walk.eq);(case hd=>rfl);(case hi=>rfl);case h=>(intro w2 hw2 N hN;simp only[Ch.depB];go_simp;(try go_bits);with_reducible exact hN _ (XR.refl _) (fun _ h=>h)))
    refine Ch.Walk.chainS 5 rfl rfl ?_ ?_
    ·intro w9 hw9 vs hvs hF N' hN';have ev:=eq5 hvs
     generalize vs.getD 0 undef=v1 at ev;generalize vs.getD 1 undef=v2 at ev;generalize vs.getD 2 undef=v3 at ev;generalize vs.getD 3 undef=v4 at ev;generalize vs.getD 4 undef=v5 at ev;subst ev;have fa:AddF n0 va1 vg1 vm1 W1.all W1.gone W1.may r1 [v1,v2,v3] w9:=hF.1
     have f0:Box w9 x (W1.cells p l most v1 v2 vm1 ve) 56:=hF.2
     have hne:v1≠va1:=HDA.out _ _ fa.1.1
     have e1:v3 = .slice (vA v3) (vN v3) (vC v3):=form_eq (ownsRow_form fa.2.2.1.1)
     have hsc:Chg (fun k=>k=x) w9 (w9.setCell ⟨x,5,none⟩ v3):=(Chg.refl (fun k=>k=x) w9).setCell (p:=⟨x,5,none⟩) (.inl rfl) _
     have hbn:Box (w9.setCell ⟨x,5,none⟩ v3) x (W1.cells p l most v1 v2 v3 ve) 56:=f0.set 5 v3
     have HXR:Hid (XR (fun k=>(va1.ownBlock=some k∨vg1.ownBlock=some k∨vm1.ownBlock=some k)∨k=x) (ShX x p l most ve W1) (StoX x va1 vg1 vm1) w9 (w9.setCell ⟨x,5,none⟩ v3)):=⟨hsc.weak (fun k hk=>.inl (.inr hk)),fun _=>⟨_,_,_,hbn⟩,fun _=>StoX.yes hbn hne⟩
     have HFX:Hid (AddX x p l n0 most va1 vg1 vm1 ve W1 r1 [v1,v2,v3,v4,v5,undef] (w9.setCell ⟨x,5,none⟩ v3)):=⟨fa.at3 f0 hsc,hbn⟩
     have cc:=f0.cell (j:=5) rfl
     have ff:=f0.free 5
     clear fa f0 hne hsc hbn hF hw9 hvs;generalize vA v3=a1 at e1;generalize vN v3=k1 at e1;generalize vC v3=c1 at e1;subst e1;simp only[Ch.depB,Ch.depC,Nat.reduceBEq,Nat.reduceAdd]
     go_simp;exact hN' _ HXR.out HFX.out
    simp only[List.nil_append,List.cons_append]
    intro w10 hw10;simp only[List.nil_append,List.cons_append,Ch.Fin,List.map_cons,List.map_nil,List.getD_cons_zero,List.getD_cons_succ]
    intro v6 _ v8 _ v9 _ v13 _ v14 _ v15 _ v19 _ v20 _ v21 _ hF;have hw10:XR (fun k=>(va1.ownBlock=some k∨vg1.ownBlock=some k∨vm1.ownBlock=some k)∨k=x) (ShX x p l most ve W1) (StoX x va1 vg1 vm1) w8 w10:=hw10
    have fa:AddF n0 va1 vg1 vm1 W1.all W1.gone W1.may r1 [v9,v15,v21] w10:=hF.1
    have f0:Box w10 x (W1.cells p l most v9 v15 v21 ve) 56:=hF.2
    have hcw:Chg (fun k=>WHas x va1 vg1 vm1 ve k) w8 w10:=hw10.c.weak (fun k hk=>.inl (hk.elim (fun h=>h.elim (fun h=>.inr (.inl h)) (fun h=>h.elim (fun h=>.inr (.inr (.inl h))) (fun h=>.inr (.inr (.inr (.inl h)))))) (fun h=>.inl h)))
    have hm10:WMem w0.heap.size w10 x p l most v9 v15 v21 ve (W.add (rs.take (t+1))):=by
     rw[HADD2.out];have hm:=HS8.out.wm
     refine⟨f0,fa.1.1,fa.2.1.1,fa.2.2.1.1,ownsRow_chg hm.e hw10.c (fun k hk e=>?_),fun k hk=>?_,fa.2.2.2⟩
     ·rcases e with (e | e | e) | e
      ·exact rows_ne hm.e hm.a (by decide) hk e
      ·exact rows_ne hm.e hm.g (by decide) hk e
      ·exact rows_ne hm.e hm.m (by decide) hk e
      ·exact hm.ne.2.2.2 (e ▸ hk)
     ·have hz:=HZ0.out
      rcases hk with hk | hk | hk | hk | hk
      ·exact hm.new k (.inl hk)
      ·exact (fa.1.2 k hk).elim (fun h=>hm.new k (.inr (.inl h))) (fun h=>by omega)
      ·exact (fa.2.1.2 k hk).elim (fun h=>hm.new k (.inr (.inr (.inl h)))) (fun h=>by omega)
      ·exact (fa.2.2.1.2 k hk).elim (fun h=>hm.new k (.inr (.inr (.inr (.inl h))))) (fun h=>by omega)
      ·exact hm.new k (.inr (.inr (.inr (.inr hk))))
    have hn10:∀ k,WHas x v9 v15 v21 ve k→WHas x va1 vg1 vm1 ve k∨w8.heap.size≤k:=fun k hk=>by
     have hz:=HN0.out
     rcases hk with hk | hk | hk | hk | hk
     ·exact .inl (.inl hk)
     ·exact (fa.1.2 k hk).imp (fun h=>.inr (.inl h)) (fun h=>by omega)
     ·exact (fa.2.1.2 k hk).imp (fun h=>.inr (.inr (.inl h))) (fun h=>by omega)
     ·exact (fa.2.2.1.2 k hk).imp (fun h=>.inr (.inr (.inr (.inl h)))) (fun h=>by omega)
     ·exact .inl (.inr (.inr (.inr (.inr hk))))
    have hs8:WS w0 w8 x p l most B1 S' sv' ss' d' g' va1 vg1 vm1 ve W1:=HS8.out
    have HS10:=Lib.hid (hs8.law hcw hm10 hn10)
    have HRC10:=Lib.hid (RecsAt.chg' HRC8.out hcw (fun hne y hy hw=>by have h1:=HS8.out.wm.new _ hw;have h2:=HRB.out hne y hy;omega))
    have HBX10:=Lib.hid (HBX8.out.chg hcw (fun e=>by
     have hm:=HS8.out.wm
     rcases e with e | e | e | e | e
     ·exact box_ne HBX8.out hm.c (by decide) e
     ·exact box_row_ne' HBX8.out hm.a (by decide) e
     ·exact box_row_ne' HBX8.out hm.g (by decide) e
     ·exact box_row_ne' HBX8.out hm.m (by decide) e
     ·exact box_row_ne' HBX8.out hm.e (by decide) e))
    clear hF fa f0 hcw hm10 hn10 hs8 hw10 x3 x4 x5 y0 y1 y2 y3 y4 y5;go_wp2_with fail;go_roundw
    case rel=>exact⟨_,t+1,_,v9,v15,v21,rfl,by go_num,HTL.out,HS10.out,HRC10.out,HBX10.out⟩
    case measure=>exact meas_two HTL.out
   ·have htt:¬(t:Int)<(R:Int):=by omega
    obtain rfl:t=R:=by have:=HT.out;omega
    have hw:W.add (rs.take t)=W.add rs:=by rw[List.take_of_length_le (by rw[HR.out];exact Nat.le_refl _)]
    have hs7:=HS7.out
    rw[hw] at hs7;have HAF:=Lib.hid (after_all hs7 (by have:=HL6.out;have:=HSS.out;omega) HM.out HHN.out 0 HRS.out)
    rw[he] at HAF;clear he hs7 htl hw;go_wp2_with fail;refine HAF.out.mono ?_
    rintro e w9 ⟨rfl,hst⟩
    go_wp2_with fail;go_ret;exact⟨rfl,hst⟩
 ·have he:=errD_ne hk
  have HAF:=Lib.hid (OpAt.after (W1:=W) (by
   obtain⟨S',sv',ss',d',g',h1,h2,h3,h4⟩:=HF.out
   exact⟨S',sv',ss',d',g',h1,h2,h3.other hk,h4⟩) HSS.out HM.out HHN.out)
  rw[he] at HAF ⊢
  clear he hk HF HNK;go_wp2_with fail;refine HAF.out.mono ?_
  rintro e w3 ⟨rfl,hst⟩
  go_wp2_with fail;go_ret;exact⟨rfl,hst⟩
end
end Go.Proofs.YtdjmifaidgbbaaaGreatDoor
