/-
  The law's step: Flush, Forget, Retain, Compact, Fail, and nothing. (Of the logs' seat.)
-/
import Derived.Test.YtdjmifaidgbbaaaGreatDoorT41
set_option linter.unusedVariables false
set_option linter.unusedSimpArgs false
set_option maxHeartbeats 0
set_option maxRecDepth 200000
namespace Go.Proofs.YtdjmifaidgbbaaaGreatDoor
open Go.RowKit Go.Maps
def DoesAt (w0:World) (x p:Nat) (most:Int) (m:Nat) (e:Ending) (w':World):Prop:=e = .returned (.bool true)∧∃ W',WSt w0 w' x p most W' (m+1)
section
variable {w0 w:World} {x p l:Nat} {most:Int} {B S:Nat→Prop} {sv:Value} {ss:List (Nat×Value)} {d:Dk} {g:Lg} {va vg vm ve:Value} {W:Wd} {m:Nat}
theorem OpAt.after {n:Nat}{w1 w2:World}{k:Nat}{W1:Wd}(h:OpAt w0 w1 x p l most B va vg vm ve W n w2 fun d' g'=>ResOk W W k d' g' m)(hn:n≤m+2)(hm:m≤62)(hH:Handle w0) :
  Calls Tryz.prog 71 #[.pointer (some ⟨x,0,none⟩),errD k] w2 (DoesAt w0 x p most m):=by
 obtain⟨S',sv',ss',d',g',h1,h2,h3,_⟩:=h
 exact after_all h1 (by omega) hm hH k h3
theorem WS.diskTo {S':Nat→Prop}{d':Dk}{w':World}(h:WS w0 w x p l most B S sv ss d g va vg vm ve W)(hd:DiskAt w' p S' d')(hS:∀ k,S' k→S k∨(w.heap.size≤k∧k<w'.heap.size))(hc:Chg S w w') :
  WS w0 w' x p l most B S' sv ss d' g va vg vm ve W∧Chg (Off B) w w':=by
 have hz:=hc.size
 have hds:=h.lg.ds
 have hdn:DsS (BofA B l sv ss) w' p S' d':=⟨fun k hk=>Nat.lt_of_lt_of_le (hds.lo k hk) hz,hd,fun k hk=>by
  rcases hS k hk with h1 | h1
  ·exact⟨(hds.sl k h1).1,Nat.lt_of_lt_of_le (hds.sl k h1).2 hz⟩
  ·exact⟨fun hb=>by have:=hds.lo k hb;omega,h1.2⟩⟩
 have hcB:Chg (Off B) w w':=hc.weak fun k hk=>.inl (h.lg.sl k hk).1
 exact⟨h.log (h.lg.disk hdn (hc.weak fun k hk=>.inl (hds.sl k hk).1)) hcB h.ne,hcB⟩
theorem does_flush (h:WS w0 w x p l most B S sv ss d g va vg vm ve W) (hss:ss.length≤m+2) (hp:WPl W d g m) (hm:m≤62) (hH:Handle w0) (a b:Int) (rv fv:Value) :
  Calls Tryz.prog 23 #[.pointer (some ⟨x,0,none⟩),.agg #[.int .i64 1,.int .i64 a,.int .i64 b,rv,fv]] w (DoesAt w0 x p most m):=by
 have HOP:Hid (∀ w',Chg Nil w w'→Calls Tryz.prog 32 #[.pointer (some ⟨l,0,none⟩)] w' fun e w''=>∃ k:Nat,e = .returned (errD k)∧Calls Tryz.prog 71 #[.pointer (some ⟨x,0,none⟩),errD k] w'' (DoesAt w0 x p most m)):=fun w' hw=>(op_flush (h.nil hw) hp hm hH).mono fun e w'' ⟨k,h1,h2⟩=>⟨k,h1,h2.after (W1:=W) hss hm hH⟩
 have c1:w.cell? ⟨x,1,none⟩=some (.pointer (some ⟨l,0,none⟩)):=h.wm.c.cell (j:=1) rfl
 clear h hss hp hm hH;have hal:=(Chg.refl Nil w).alloc (.cells #[.int .i64 1,.int .i64 a,.int .i64 b,rv,fv] 59)
 have hbx:Box (w.alloc (.cells #[.int .i64 1,.int .i64 a,.int .i64 b,rv,fv] 59)) w.heap.size [.int .i64 1,.int .i64 a,.int .i64 b,rv,fv] 59:=Box.new w _ _
 go_enter Tryz.func23,Tryz.ntmps23
 go_upto_region 1 with fail;obtain⟨b3,hb3⟩:∃ b3,w.heap.size=b3:=⟨_,rfl⟩
 generalize hw1:w.alloc (.cells #[.int .i64 1,.int .i64 a,.int .i64 b,rv,fv] 59)=w1 at *;rw[hb3] at hbx
 rw[hb3];have b0:=hbx.cell (j:=0) rfl
 have b1:=hbx.cell (j:=1) rfl
 have b2:=hbx.cell (j:=2) rfl
 have HAL:=Lib.hid hal
 have c1':=hal.cell c1 (fun h=>h)
 clear hal hbx hb3 hw1 c1;go_wp2_with fail;refine (HOP.out w1 HAL.out).mono ?_
 rintro e w2 ⟨k,rfl,haf⟩
 have HAF:=Lib.hid haf
 clear haf b0 b1 b2 c1';go_wp2_with fail;refine HAF.out.mono ?_
 rintro e w3 ⟨rfl,hst⟩
 go_wp2_with fail;go_ret;exact⟨rfl,hst⟩
theorem does_else (h:WS w0 w x p l most B S sv ss d g va vg vm ve W) (hss:ss.length≤m+2) (hp:WPl W d g m) (a b:Int) (rv fv:Value) (what:Int) (hwt:¬(0≤what∧what≤6)) :
  Calls Tryz.prog 23 #[.pointer (some ⟨x,0,none⟩),.agg #[.int .i64 what,.int .i64 a,.int .i64 b,rv,fv]] w (DoesAt w0 x p most m):=by
 have HST:Hid (∀ w',Chg Nil w w'→∃ W',WSt w0 w' x p most W' (m+1)):=fun w' hw=>⟨W,l,B,S,sv,ss,d,g,va,vg,vm,ve,h.nil hw,by omega,hp.more⟩
 have q0:(what==(0:Int))=false:=beq_eq_false_iff_ne.2 (by omega)
 have q1:(what==(1:Int))=false:=beq_eq_false_iff_ne.2 (by omega)
 have q2:(what==(2:Int))=false:=beq_eq_false_iff_ne.2 (by omega)
 have q3:(what==(3:Int))=false:=beq_eq_false_iff_ne.2 (by omega)
 have q4:(what==(4:Int))=false:=beq_eq_false_iff_ne.2 (by omega)
 have q5:(what==(5:Int))=false:=beq_eq_false_iff_ne.2 (by omega)
 have q6:(what==(6:Int))=false:=beq_eq_false_iff_ne.2 (by omega)
 clear h hss hp hwt;have hal:=(Chg.refl Nil w).alloc (.cells #[.int .i64 what,.int .i64 a,.int .i64 b,rv,fv] 59)
 have hbx:Box (w.alloc (.cells #[.int .i64 what,.int .i64 a,.int .i64 b,rv,fv] 59)) w.heap.size [.int .i64 what,.int .i64 a,.int .i64 b,rv,fv] 59:=Box.new w _ _
 go_enter Tryz.func23,Tryz.ntmps23
 go_upto_region 1 with fail;obtain⟨b3,hb3⟩:∃ b3,w.heap.size=b3:=⟨_,rfl⟩
 generalize hw1:w.alloc (.cells #[.int .i64 what,.int .i64 a,.int .i64 b,rv,fv] 59)=w1 at *;rw[hb3] at hbx
 rw[hb3];have b0:=hbx.cell (j:=0) rfl
 have b1:=hbx.cell (j:=1) rfl
 have b2:=hbx.cell (j:=2) rfl
 have HAL:=Lib.hid hal
 clear hal hbx hb3 hw1;go_wp2_with fail;go_ret;exact⟨rfl,HST.out w1 HAL.out⟩
theorem does_fail (h:WS w0 w x p l most B S sv ss d g va vg vm ve W) (hss:ss.length≤m+2) (hp:WPl W d g m) (hm:m≤62) (hH:Handle w0) (a b:Int) (rv fv:Value) :
  Calls Tryz.prog 23 #[.pointer (some ⟨x,0,none⟩),.agg #[.int .i64 5,.int .i64 a,.int .i64 b,rv,fv]] w (DoesAt w0 x p most m):=by
 have HOP:Hid (∀ w',Chg Nil w w'→∀ n:Nat,n<25→Calls Tryz.prog 70 #[.pointer (some ⟨p,0,none⟩),.int .i64 n] w' fun e w''=>e = .returned (.tuple #[])∧∃ W',WSt w0 w'' x p most W' (m+1)):=fun w' hw n hn=>by
  have h1:=h.nil hw
  refine (dfail_any h1.lg.a n (by omega)).mono ?_
  rintro e w'' ⟨he,hd,hc⟩
  obtain⟨hws,-⟩:=h1.diskTo hd (fun k hk=>.inl hk) hc
  have hmx:max (n:Int) (-1)=n:=by omega
  rw[hmx] at hws;exact⟨he,W,l,_,_,_,_,_,_,_,_,_,_,hws,by omega,(hp.failed ⟨by omega,by omega⟩).more⟩
 have HPK:=Lib.hid (pick_any a 25)
 have HPL:=Lib.hid (pickN_lt (a:=a) (n:=25) (by omega))
 have c0:w.cell? ⟨x,0,none⟩=some (.pointer (some ⟨p,0,none⟩)):=h.wm.c.cell (j:=0) rfl
 clear h hss hp hm hH;have hal:=(Chg.refl Nil w).alloc (.cells #[.int .i64 5,.int .i64 a,.int .i64 b,rv,fv] 59)
 have hbx:Box (w.alloc (.cells #[.int .i64 5,.int .i64 a,.int .i64 b,rv,fv] 59)) w.heap.size [.int .i64 5,.int .i64 a,.int .i64 b,rv,fv] 59:=Box.new w _ _
 go_enter Tryz.func23,Tryz.ntmps23
 go_upto_region 1 with fail;obtain⟨b3,hb3⟩:∃ b3,w.heap.size=b3:=⟨_,rfl⟩
 generalize hw1:w.alloc (.cells #[.int .i64 5,.int .i64 a,.int .i64 b,rv,fv] 59)=w1 at *;rw[hb3] at hbx
 rw[hb3];have b0:=hbx.cell (j:=0) rfl
 have b1:=hbx.cell (j:=1) rfl
 have b2:=hbx.cell (j:=2) rfl
 have HAL:=Lib.hid hal
 have c0':=hal.cell c0 (fun h=>h)
 clear hal hbx hb3 hw1 c0;go_upto_region 25 with fail;refine Ch.wp_region_tail _ 7 (Chg (Nil)) [] (fun _ _=>True) (by kernel_rfl) (fun _=>Chg.refl _ _) (fun _ _ _ h k=>h.trans k (fun _ h=>.inl h)) [[],[0],[1],[2],[],[4],[5],[3,6]] rfl (by kernel_rfl) (by kernel_rfl) (by kernel_rfl) (Chg.refl _ _).drew ?_ ?_
 ·trivial
 simp only[List.take_succ_cons,List.take_zero,List.drop_succ_cons,List.drop_zero,List.length_cons,List.length_nil,Nat.reduceAdd]
 iterate 3 ((with_reducible apply Ch.Walk.eq);(case hd=>rfl);(case hi=>rfl);case h=>(intro w2 hw2 N hN;simp only[Ch.depB];go_simp;(try go_bits);with_reducible exact hN _ (Chg.refl _ _) (fun _ h=>h)))
 ((with_reducible apply Ch.Walk.eq);(case hd=>rfl);(case hi=>rfl);case h=>(intro w2 hw2 N hN;(have hq:=hw2.cell c0' (fun h=>h));simp only[Ch.depB];go_simp;(try go_bits);with_reducible exact hN _ (Chg.refl _ _) (fun _ h=>h)))
 ((with_reducible apply Ch.Walk.eq);(case hd=>rfl);(case hi=>rfl);case h=>(intro w2 hw2 N hN;simp only[Ch.depB];go_simp;(try go_bits);with_reducible exact hN _ (Chg.refl _ _) (fun _ h=>h)))
 ((with_reducible apply Ch.Walk.eq);(case hd=>rfl);(case hi=>rfl);case h=>(intro w2 hw2 N hN;(have hq:=hw2.cell b1 (fun h=>h));simp only[Ch.depB];go_simp;(try go_bits);with_reducible exact hN _ (Chg.refl _ _) (fun _ h=>h)))
 (with_reducible apply Ch.Walk.eq);(case hd=>rfl);(case hi=>rfl);case h=>
  intro w2 hw2 N hN;simp only[Ch.depB,Ch.depC,Nat.reduceBEq,Nat.reduceAdd]
  go_simp;refine (HPK.out w2 (by omega) (by omega)).mono ?_
  rintro e w5 ⟨rfl,hw5⟩
  obtain rfl:=hw5.symm
  exact⟨_,rfl,hN _ (Chg.refl _ _) (fun _ h=>h)⟩
 intro w6 hw6;simp only[List.nil_append,List.cons_append,Ch.Fin,List.map_cons,List.map_nil,List.getD_cons_zero,List.getD_cons_succ]
 intro _;have HC6:Hid (Chg Nil w w6):=HAL.out.trans hw6 (fun _ h=>h.elim)
 clear b0 b1 b2 c0' hw6;simp only[Ch.thens_cons,Ch.thens_nil,Oper.wp]
 go_simp;trace_state
 refine (HOP.out w6 HC6.out _ HPL.out).mono ?_
 rintro e w7 ⟨rfl,hst⟩
 go_wp2_with fail;go_ret;exact⟨rfl,hst⟩
theorem does_forget (h:WS w0 w x p l most B S sv ss d g va vg vm ve W) (hss:ss.length≤m+2) (hp:WPl W d g m) (hm:m≤62) (hH:Handle w0) (a b:Int) (rv fv:Value) :
  Calls Tryz.prog 23 #[.pointer (some ⟨x,0,none⟩),.agg #[.int .i64 2,.int .i64 a,.int .i64 b,rv,fv]] w (DoesAt w0 x p most m):=by
 have HOP:Hid (∀ w',Chg Nil w w'→∀ n:Nat,n<W.all.length+1→Calls Tryz.prog 37 #[.pointer (some ⟨l,0,none⟩),.int .i64 n] w' fun e w''=>∃ k:Nat,e = .returned (errD k)∧Calls Tryz.prog 71 #[.pointer (some ⟨x,0,none⟩),errD k] w'' (DoesAt w0 x p most m)):=fun w' hw n hn=>(op_forget (h.nil hw) hp hm hH n (by omega) (by omega)).mono fun e w'' ⟨k,h1,h2⟩=>⟨k,h1,h2.after (W1:=W) hss hm hH⟩
 have c1:w.cell? ⟨x,1,none⟩=some (.pointer (some ⟨l,0,none⟩)):=h.wm.c.cell (j:=1) rfl
 have c3:w.cell? ⟨x,3,none⟩=some va:=h.wm.c.cell (j:=3) rfl
 obtain⟨aa,ac,hva,-,-⟩:=h.wm.a.valAt
 have hN4:W.all.length≤4000:=by have:=hp.kn.many;omega
 generalize W.all.length=N at *;subst hva;have HPK:Hid (∀ w',Calls Tryz.prog 11 #[.int .i64 a,.int .i64 ((N:Int)+1)] w' fun e w''=>e = .returned (.int .i64 (pickN a (N+1):Nat))∧w'=w''):=fun w'=>pick_any a (N+1) w' (by omega) (by omega)
 have HPL:=Lib.hid (pickN_lt (a:=a) (n:=N+1) (by omega))
 clear h hss hp hm hH;have hal:=(Chg.refl Nil w).alloc (.cells #[.int .i64 2,.int .i64 a,.int .i64 b,rv,fv] 59)
 have hbx:Box (w.alloc (.cells #[.int .i64 2,.int .i64 a,.int .i64 b,rv,fv] 59)) w.heap.size [.int .i64 2,.int .i64 a,.int .i64 b,rv,fv] 59:=Box.new w _ _
 go_enter Tryz.func23,Tryz.ntmps23
 go_upto_region 1 with fail;obtain⟨b3,hb3⟩:∃ b3,w.heap.size=b3:=⟨_,rfl⟩
 generalize hw1:w.alloc (.cells #[.int .i64 2,.int .i64 a,.int .i64 b,rv,fv] 59)=w1 at *;rw[hb3] at hbx
 rw[hb3];have b0:=hbx.cell (j:=0) rfl
 have b1:=hbx.cell (j:=1) rfl
 have b2:=hbx.cell (j:=2) rfl
 have HAL:=Lib.hid hal
 have c1':=hal.cell c1 (fun h=>h)
 have c3':=hal.cell c3 (fun h=>h)
 clear hal hbx hb3 hw1 c1 c3;go_upto_region 19 with fail;refine Ch.wp_region_tail _ 13 (Chg (Nil)) [] (fun _ _=>True) (by kernel_rfl) (fun _=>Chg.refl _ _) (fun _ _ _ h k=>h.trans k (fun _ h=>.inl h)) [[],[0],[1],[2],[],[4],[],[6],[7],[8],[9],[10],[5,11],[3,12],[13]] rfl (by kernel_rfl) (by kernel_rfl) (by kernel_rfl) (Chg.refl _ _).drew ?_ ?_
 ·trivial
 simp only[List.take_succ_cons,List.take_zero,List.drop_succ_cons,List.drop_zero,List.length_cons,List.length_nil,Nat.reduceAdd]
 iterate 3 ((with_reducible apply Ch.Walk.eq);(case hd=>rfl);(case hi=>rfl);case h=>(intro w2 hw2 N hN;simp only[Ch.depB];go_simp;(try go_bits);with_reducible exact hN _ (Chg.refl _ _) (fun _ h=>h)))
 ((with_reducible apply Ch.Walk.eq);(case hd=>rfl);(case hi=>rfl);case h=>(intro w2 hw2 N hN;(have hq:=hw2.cell c1' (fun h=>h));simp only[Ch.depB];go_simp;(try go_bits);with_reducible exact hN _ (Chg.refl _ _) (fun _ h=>h)))
 ((with_reducible apply Ch.Walk.eq);(case hd=>rfl);(case hi=>rfl);case h=>(intro w2 hw2 N hN;simp only[Ch.depB];go_simp;(try go_bits);with_reducible exact hN _ (Chg.refl _ _) (fun _ h=>h)))
 ((with_reducible apply Ch.Walk.eq);(case hd=>rfl);(case hi=>rfl);case h=>(intro w2 hw2 N hN;(have hq:=hw2.cell b1 (fun h=>h));simp only[Ch.depB];go_simp;(try go_bits);with_reducible exact hN _ (Chg.refl _ _) (fun _ h=>h)))
 iterate 3 ((with_reducible apply Ch.Walk.eq);(case hd=>rfl);(case hi=>rfl);case h=>(intro w2 hw2 N hN;simp only[Ch.depB];go_simp;(try go_bits);with_reducible exact hN _ (Chg.refl _ _) (fun _ h=>h)))
 ((with_reducible apply Ch.Walk.eq);(case hd=>rfl);(case hi=>rfl);case h=>(intro w2 hw2 N hN;(have hq:=hw2.cell c3' (fun h=>h));simp only[Ch.depB];go_simp;(try go_bits);with_reducible exact hN _ (Chg.refl _ _) (fun _ h=>h)))
 iterate 2 ((with_reducible apply Ch.Walk.eq);(case hd=>rfl);(case hi=>rfl);case h=>(intro w2 hw2 N hN;simp only[Ch.depB];go_simp;(try go_bits);with_reducible exact hN _ (Chg.refl _ _) (fun _ h=>h)))
 (with_reducible apply Ch.Walk.eq);(case hd=>rfl);(case hi=>rfl);case h=>
  intro w2 hw2 N hN;simp only[Ch.depB,Ch.depC,Nat.reduceBEq,Nat.reduceAdd]
  go_simp;refine (HPK.out w2).mono ?_
  rintro e w5 ⟨rfl,hw5⟩
  obtain rfl:=hw5.symm
  exact⟨_,rfl,hN _ (Chg.refl _ _) (fun _ h=>h)⟩
 intro w6 hw6;simp only[List.nil_append,List.cons_append,Ch.Fin,List.map_cons,List.map_nil,List.getD_cons_zero,List.getD_cons_succ]
 intro _;have HC6:Hid (Chg Nil w w6):=HAL.out.trans hw6 (fun _ h=>h.elim)
 clear b0 b1 b2 c1' c3' hw6;simp only[Ch.thens_cons,Ch.thens_nil,Oper.wp]
 go_simp;refine (HOP.out w6 HC6.out _ HPL.out).mono ?_
 rintro e w2 ⟨k,rfl,haf⟩
 have HAF:=Lib.hid haf
 clear haf;go_wp2_with fail;refine HAF.out.mono ?_
 rintro e w3 ⟨rfl,hst⟩
 go_wp2_with fail;go_ret;exact⟨rfl,hst⟩
theorem does_compacts (h:WS w0 w x p l most B S sv ss d g va vg vm ve W) (hss:ss.length≤m+2) (hp:WPl W d g m) (hm:m≤62) (hH:Handle w0) (a b:Int) (rv fv:Value) :
  Calls Tryz.prog 23 #[.pointer (some ⟨x,0,none⟩),.agg #[.int .i64 4,.int .i64 a,.int .i64 b,rv,fv]] w (DoesAt w0 x p most m):=by
 have HOP:Hid (∀ w',Chg Nil w w'→∀ n n2:Int,Calls Tryz.prog 69 #[.pointer (some ⟨x,0,none⟩),.int .i64 n,.int .i64 n2] w' (DoesAt w0 x p most m)):=fun w' hw n n2=>compacts_any (h.nil hw) hss hp hm hH n n2
 have HPK:Hid (∀ w',Calls Tryz.prog 11 #[.int .i64 a,.int .i64 1000] w' fun e w''=>e = .returned (.int .i64 (pickN a 1000:Nat))∧w'=w''):=fun w'=>pick_any a 1000 w' (by omega) (by omega)
 have HPK2:Hid (∀ w',Calls Tryz.prog 11 #[.int .i64 b,.int .i64 1000] w' fun e w''=>e = .returned (.int .i64 (pickN b 1000:Nat))∧w'=w''):=fun w'=>pick_any b 1000 w' (by omega) (by omega)
 clear h hss hp hm hH;have hal:=(Chg.refl Nil w).alloc (.cells #[.int .i64 4,.int .i64 a,.int .i64 b,rv,fv] 59)
 have hbx:Box (w.alloc (.cells #[.int .i64 4,.int .i64 a,.int .i64 b,rv,fv] 59)) w.heap.size [.int .i64 4,.int .i64 a,.int .i64 b,rv,fv] 59:=Box.new w _ _
 go_enter Tryz.func23,Tryz.ntmps23
 go_upto_region 1 with fail;obtain⟨b3,hb3⟩:∃ b3,w.heap.size=b3:=⟨_,rfl⟩
 generalize hw1:w.alloc (.cells #[.int .i64 4,.int .i64 a,.int .i64 b,rv,fv] 59)=w1 at *;rw[hb3] at hbx
 rw[hb3];have b0:=hbx.cell (j:=0) rfl
 have b1:=hbx.cell (j:=1) rfl
 have b2:=hbx.cell (j:=2) rfl
 have HAL:=Lib.hid hal
 clear hal hbx hb3 hw1;go_upto_region 23 with fail;refine Ch.wp_region_tail _ 7 (Chg (Nil)) [] (fun _ _=>True) (by kernel_rfl) (fun _=>Chg.refl _ _) (fun _ _ _ h k=>h.trans k (fun _ h=>.inl h)) [[],[],[1],[2],[],[4],[5],[0,3,6],[7]] rfl (by kernel_rfl) (by kernel_rfl) (by kernel_rfl) (Chg.refl _ _).drew ?_ ?_
 ·trivial
 simp only[List.take_succ_cons,List.take_zero,List.drop_succ_cons,List.drop_zero,List.length_cons,List.length_nil,Nat.reduceAdd]
 iterate 2 ((with_reducible apply Ch.Walk.eq);(case hd=>rfl);(case hi=>rfl);case h=>(intro w2 hw2 N hN;simp only[Ch.depB];go_simp;(try go_bits);with_reducible exact hN _ (Chg.refl _ _) (fun _ h=>h)))
 ((with_reducible apply Ch.Walk.eq);(case hd=>rfl);(case hi=>rfl);case h=>(intro w2 hw2 N hN;(have hq:=hw2.cell b1 (fun h=>h));simp only[Ch.depB];go_simp;(try go_bits);with_reducible exact hN _ (Chg.refl _ _) (fun _ h=>h)))
 (with_reducible apply Ch.Walk.eq);(case hd=>rfl);(case hi=>rfl);case h=>
  intro w2 hw2 N hN;simp only[Ch.depB,Ch.depC,Nat.reduceBEq,Nat.reduceAdd]
  go_simp;refine (HPK.out w2).mono ?_
  rintro e w5 ⟨rfl,hw5⟩
  obtain rfl:=hw5.symm
  exact⟨_,rfl,hN _ (Chg.refl _ _) (fun _ h=>h)⟩
 ((with_reducible apply Ch.Walk.eq);(case hd=>rfl);(case hi=>rfl);case h=>(intro w2 hw2 N hN;simp only[Ch.depB];go_simp;(try go_bits);with_reducible exact hN _ (Chg.refl _ _) (fun _ h=>h)))
 ((with_reducible apply Ch.Walk.eq);(case hd=>rfl);(case hi=>rfl);case h=>(intro w2 hw2 N hN;(have hq:=hw2.cell b2 (fun h=>h));simp only[Ch.depB];go_simp;(try go_bits);with_reducible exact hN _ (Chg.refl _ _) (fun _ h=>h)))
 (with_reducible apply Ch.Walk.eq);(case hd=>rfl);(case hi=>rfl);case h=>
  intro w2 hw2 N hN;simp only[Ch.depB,Ch.depC,Nat.reduceBEq,Nat.reduceAdd]
  go_simp;refine (HPK2.out w2).mono ?_
  rintro e w5 ⟨rfl,hw5⟩
  obtain rfl:=hw5.symm
  exact⟨_,rfl,hN _ (Chg.refl _ _) (fun _ h=>h)⟩
 intro w6 hw6;simp only[List.nil_append,List.cons_append,Ch.Fin,List.map_cons,List.map_nil,List.getD_cons_zero,List.getD_cons_succ]
 intro _;have HC6:Hid (Chg Nil w w6):=HAL.out.trans hw6 (fun _ h=>h.elim)
 clear b0 b1 b2 hw6;simp only[Ch.thens_cons,Ch.thens_nil,Oper.wp]
 go_simp;refine (HOP.out w6 HC6.out _ _).mono ?_
 rintro e w2 ⟨rfl,hst⟩
 go_wp2_with fail;go_ret;exact⟨rfl,hst⟩
theorem op_retain2 (hp:WPl W d g m)(hm:m≤62)(hH:Handle w0) (now age bytes:Int):∃ n k:Nat,∀ (w:World) (B S:Nat→Prop) (sv:Value) (ss:List (Nat×Value)) (va vg vm ve:Value),WS w0 w x p l most B S sv ss d g va vg vm ve W→
  Calls Tryz.prog 18 #[.pointer (some ⟨l,0,none⟩),.int .i64 now,.int .i64 age,.int .i64 bytes] w fun e w'=>e = .returned (.tuple #[.int .i64 (n:Nat),errD k])∧OpAt w0 w x p l most B va vg vm ve W ss.length w' fun d' g'=>ResOk W W k d' g' m:=by
 rcases hp with ⟨ys,z,hu⟩ | ⟨hd1,hd2,g2,ys,z,hc⟩
 ·refine⟨(retLg now age bytes d g).2.1,(retLg now age bytes d g).1,fun w B S sv ss va vg vm ve h=>?_⟩
  have hn:=hu.needs h hH (by omega)
  have hsl:=hu.ssl h
  have hseg:=hu.c.segs
  refine (lretain_any h.lg h.ne (by omega) (hu.c.up.ok.fit (by rw[hu.c.dir];simp)) (h.hand hH).1 (h.hand hH).2 now age bytes).mono ?_
  rintro e w' ⟨he,⟨S',sv',ss',h3,h5,h6⟩,h4⟩
  exact⟨he,S',sv',ss',_,_,h.log h3 h4 h5,by omega,(hu.retain now age bytes).ok hu.dn,h4⟩
 ·refine⟨0,6,fun w B S sv ss va vg vm ve h=>?_⟩
  refine (lretain_down (h.downBox hd1) now age bytes).mono ?_
  rintro e w' ⟨he,hw⟩
  obtain rfl:=hw.symm
  exact⟨he,S,sv,ss,d,g,h,Nat.le_succ _,.inr (.inr (.inl ⟨rfl,hd2,.inr ⟨hd1,hd2,g2,ys,z,hc.more (Nat.le_succ _)⟩⟩)),Chg.refl _ _⟩
def OpF (w0 w1:World) (x p l:Nat) (most:Int) (B S:Nat→Prop) (sv:Value) (ss:List (Nat×Value)) (d:Dk) (g:Lg) (va vg vm ve:Value) (W:Wd) (Q:Dk→Lg→Prop):List Value→World→Prop
 | [],w=>WS w0 w x p l most B S sv ss d g va vg vm ve W
 | _::_,w=>∃ w1,OpAt w0 w1 x p l most B va vg vm ve W ss.length w Q
theorem OpAt.off {n:Nat}{w1 w2:World}{Q:Dk→Lg→Prop}(h:OpAt w0 w1 x p l most B va vg vm ve W n w2 Q):Chg (Off B) w1 w2:=h.elim fun _ h=>h.elim fun _ h=>h.elim fun _ h=>h.elim fun _ h=>h.elim fun _ h=>h.2.2.2
theorem does_retain (h:WS w0 w x p l most B S sv ss d g va vg vm ve W) (hss:ss.length≤m+2) (hp:WPl W d g m) (hm:m≤62) (hH:Handle w0) (a b:Int) (rv fv:Value) :
  Calls Tryz.prog 23 #[.pointer (some ⟨x,0,none⟩),.agg #[.int .i64 3,.int .i64 a,.int .i64 b,rv,fv]] w (DoesAt w0 x p most m):=by
 obtain⟨n,k,hop⟩:=op_retain2 (x:=x) (p:=p) (l:=l) (most:=most) hp hm hH (pickN a 1000:Nat) ((pickN b 1000:Nat)-1) (-1)
 have HOP:=Lib.hid hop
 have HPK:Hid (∀ w',Calls Tryz.prog 11 #[.int .i64 a,.int .i64 1000] w' fun e w''=>e = .returned (.int .i64 (pickN a 1000:Nat))∧w'=w''):=fun w'=>pick_any a 1000 w' (by omega) (by omega)
 have HPK2:Hid (∀ w',Calls Tryz.prog 11 #[.int .i64 b,.int .i64 1000] w' fun e w''=>e = .returned (.int .i64 (pickN b 1000:Nat))∧w'=w''):=fun w'=>pick_any b 1000 w' (by omega) (by omega)
 have hpb:pickN b 1000<1000:=pickN_lt (by omega)
 have HH:=Lib.hid h
 have HSS:=Lib.hid hss
 have HM:=Lib.hid hm
 have HHN:=Lib.hid hH
 clear h hss hp hm hH hop;have hal:=(Chg.refl Nil w).alloc (.cells #[.int .i64 3,.int .i64 a,.int .i64 b,rv,fv] 59)
 have hbx:Box (w.alloc (.cells #[.int .i64 3,.int .i64 a,.int .i64 b,rv,fv] 59)) w.heap.size [.int .i64 3,.int .i64 a,.int .i64 b,rv,fv] 59:=Box.new w _ _
 go_enter Tryz.func23,Tryz.ntmps23
 go_upto_region 1 with fail;obtain⟨b3,hb3⟩:∃ b3,w.heap.size=b3:=⟨_,rfl⟩
 generalize hw1:w.alloc (.cells #[.int .i64 3,.int .i64 a,.int .i64 b,rv,fv] 59)=w1 at *;rw[hb3] at hbx
 rw[hb3];have b0:=hbx.cell (j:=0) rfl
 have b1:=hbx.cell (j:=1) rfl
 have b2:=hbx.cell (j:=2) rfl
 have HAL:=Lib.hid hal
 have HS1:=Lib.hid (HH.out.side (hal.weak (fun _ h=>h.elim)))
 obtain⟨B2,hB2⟩:∃ B2:Nat→Prop,(fun k=>B k∨(w.heap.size≤k∧k<w1.heap.size))=B2:=⟨_,rfl⟩
 have HB3:Hid (B2 b3):=by rw[←hB2];exact .inr ⟨Nat.le_of_eq hb3,(Array.getElem?_eq_some_iff.1 hbx).1⟩
 rw[hB2] at HS1;have HBX:Hid (B2 x):=HS1.out.bw x (.inl rfl)
 have c1:w1.cell? ⟨x,1,none⟩=some (.pointer (some ⟨l,0,none⟩)):=HS1.out.wm.c.cell (j:=1) rfl
 obtain⟨pa,hpa⟩:∃ pa,pickN a 1000=pa:=⟨_,rfl⟩
 obtain⟨pb,hpb2⟩:∃ pb,pickN b 1000=pb:=⟨_,rfl⟩
 rw[hpa,hpb2] at HOP;rw[hpa] at HPK;rw[hpb2] at HPK2 hpb
 clear hal hbx hb3 hw1 hB2 HH HAL hpa hpb2;go_upto_region 21 with fail;refine Ch.wp_region_chain _ (Chg (Off B2)) [11] (OpF w0 w1 x p l most B2 S sv ss d g va vg vm ve W (fun d' g'=>ResOk W W k d' g' m)) (by kernel_rfl) (fun _=>Chg.refl _ _) (fun _ _ _ h k=>h.trans k (fun _ h=>.inl h)) [[],[0],[1],[2],[],[4],[5],[],[7],[8],[9],[3,6,10],[11],[12],[12],[14]] rfl (by kernel_rfl) (by kernel_rfl) (Chg.refl _ _).drew ?_ ?_
 ·exact HS1.out.nil (Chg.refl Nil _).drew
 iterate 3 ((with_reducible apply Ch.Walk.eq);(case hd=>rfl);(case hi=>rfl);case h=>(intro w2 hw2 N hN;simp only[Ch.depB];go_simp;(try go_bits);with_reducible exact hN _ (Chg.refl _ _) (fun _ h=>h)))
 ((with_reducible apply Ch.Walk.eq);(case hd=>rfl);(case hi=>rfl);case h=>(intro w2 hw2 N hN;(have hq:=hw2.cell c1 (fun h=>h HBX.out));simp only[Ch.depB];go_simp;(try go_bits);with_reducible exact hN _ (Chg.refl _ _) (fun _ h=>h)))
 ((with_reducible apply Ch.Walk.eq);(case hd=>rfl);(case hi=>rfl);case h=>(intro w2 hw2 N hN;simp only[Ch.depB];go_simp;(try go_bits);with_reducible exact hN _ (Chg.refl _ _) (fun _ h=>h)))
 ((with_reducible apply Ch.Walk.eq);(case hd=>rfl);(case hi=>rfl);case h=>(intro w2 hw2 N hN;(have hq:=hw2.cell b1 (fun h=>h HB3.out));simp only[Ch.depB];go_simp;(try go_bits);with_reducible exact hN _ (Chg.refl _ _) (fun _ h=>h)))
 (with_reducible apply Ch.Walk.eq);(case hd=>rfl);(case hi=>rfl);case h=>
  intro w2 hw2 N hN;simp only[Ch.depB,Ch.depC,Nat.reduceBEq,Nat.reduceAdd]
  go_simp;refine (HPK.out w2).mono ?_
  rintro e w5 ⟨rfl,hw5⟩
  obtain rfl:=hw5.symm
  exact⟨_,rfl,hN _ (Chg.refl _ _) (fun _ h=>h)⟩
 ((with_reducible apply Ch.Walk.eq);(case hd=>rfl);(case hi=>rfl);case h=>(intro w2 hw2 N hN;simp only[Ch.depB];go_simp;(try go_bits);with_reducible exact hN _ (Chg.refl _ _) (fun _ h=>h)))
 ((with_reducible apply Ch.Walk.eq);(case hd=>rfl);(case hi=>rfl);case h=>(intro w2 hw2 N hN;(have hq:=hw2.cell b2 (fun h=>h HB3.out));simp only[Ch.depB];go_simp;(try go_bits);with_reducible exact hN _ (Chg.refl _ _) (fun _ h=>h)))
 (with_reducible apply Ch.Walk.eq);(case hd=>rfl);(case hi=>rfl);case h=>
  intro w2 hw2 N hN;simp only[Ch.depB,Ch.depC,Nat.reduceBEq,Nat.reduceAdd]
  go_simp;refine (HPK2.out w2).mono ?_
  rintro e w5 ⟨rfl,hw5⟩
  obtain rfl:=hw5.symm
  exact⟨_,rfl,hN _ (Chg.refl _ _) (fun _ h=>h)⟩
 ((with_reducible apply Ch.Walk.eq);(case hd=>rfl);(case hi=>rfl);case h=>(intro w2 hw2 N hN;simp only[Ch.depB];go_simp;(try go_bits);with_reducible exact hN _ (Chg.refl _ _) (fun _ h=>h)))
 refine Ch.Walk.chainE 0 (c:=.tuple #[.int .i64 (n:Nat),errD k]) rfl rfl ?_ ?_
 ·intro w6 hw6 vs hvs hF N hN;obtain rfl:=List.eq_nil_of_length_eq_zero hvs
  have F3:WS w0 w6 x p l most B2 S sv ss d g va vg vm ve W:=hF
  have hdo:=HOP.out _ _ _ _ _ _ _ _ _ F3
  have HDO:=Lib.hid hdo
  clear F3 hF hdo;simp only[Ch.depB,Ch.depC,Nat.reduceBEq,Nat.reduceAdd]
  go_simp;refine HDO.out.mono ?_
  rintro e w7 ⟨rfl,h2⟩
  exact⟨_,rfl,hN _ h2.off ⟨_,h2⟩⟩
 iterate 4 ((with_reducible apply Ch.Walk.eq);(case hd=>rfl);(case hi=>rfl);case h=>(intro w2 hw2 N hN;simp only[Ch.depB];go_simp;(try go_bits);with_reducible exact hN _ (Chg.refl _ _) (fun _ h=>h)))
 intro w6 hw6;simp only[List.nil_append,List.cons_append,Ch.Fin,List.map_cons,List.map_nil,List.getD_cons_zero,List.getD_cons_succ]
 rintro⟨w7,hf⟩
 have HAF:=Lib.hid (hf.after (W1:=W) HSS.out HM.out HHN.out)
 clear hf hw6 b0 b1 b2 c1;go_wp2_with fail;refine HAF.out.mono ?_
 rintro e w3 ⟨rfl,hst⟩
 go_wp2_with fail;go_ret;exact⟨rfl,hst⟩
end
end Go.Proofs.YtdjmifaidgbbaaaGreatDoor
