/-
  The law looks at what an operation told. (Of the logs' seat.)
-/
import Derived.Test.YtdjmifaidgbbaaaGreatDoorT39
set_option linter.unusedVariables false
set_option linter.unusedSimpArgs false
set_option maxHeartbeats 0
set_option maxRecDepth 200000
namespace Go.Proofs.YtdjmifaidgbbaaaGreatDoor
open Go.RowKit Go.Maps
section
variable {w0 w:World} {x p l:Nat} {most:Int} {B S:Nat→Prop} {sv:Value} {ss:List (Nat×Value)} {d:Dk} {g:Lg} {va vg vm ve:Value} {W:Wd}
theorem WS.cell {w':World}{W3:Wd}(hs:WS w0 w x p l most B S sv ss d g va vg vm ve W) (j:Nat) (v:Value)(hw:w.setCell ⟨x,j,none⟩ v=w')(hb:Box w' x (W3.cells p l most va vg vm ve) 56) (e1:W3.all=W.all) (e2:W3.gone=W.gone) (e3:W3.may=W.may) (e4:W3.ends=W.ends):∃ B',WS w0 w' x p l most B' S sv ss d g va vg vm ve W3:=by
 subst hw;have hsc:Chg (fun k=>k=x) w (w.setCell ⟨x,j,none⟩ v):=(Chg.refl (fun k=>k=x) _).setCell (.inl rfl) _
 have hm:=hs.wm
 have hne:=hm.ne
 refine⟨_,hs.law (hsc.weak (fun k hk=>.inl (.inl hk))) ⟨hb,?_,?_,?_,?_,hm.new,hm.gm⟩ (fun k hk=>.inl hk)⟩
 ·rw[e1];exact ownsRow_chg hm.a hsc (fun k hk e=>hne.1 (e ▸ hk))
 ·rw[e2];exact ownsRow_chg hm.g hsc (fun k hk e=>hne.2.1 (e ▸ hk))
 ·rw[e3];exact ownsRow_chg hm.m hsc (fun k hk e=>hne.2.2.1 (e ▸ hk))
 ·rw[e4];exact ownsRow_chg hm.e hsc (fun k hk e=>hne.2.2.2 (e ▸ hk))
theorem after_ok (h:WS w0 w x p l most B S sv ss d g va vg vm ve W) (hn:LgN B w ss g) (hE:W.ends.length≤1000) (hd:W.down=false) :
  Calls Tryz.prog 71 #[.pointer (some ⟨x,0,none⟩),.nilIface] w fun e w'=>e = .returned (.bool true)∧∃ B' ve',WS w0 w' x p l most B' S sv ss d g va vg vm ve' (W.note g):=by
 have c9:w.cell? ⟨x,9,none⟩=some (.bool W.down):=h.wm.c.cell (j:=9) rfl
 rw[hd] at c9;have HNO:=Lib.hid (notes_any h hn hE)
 have HTN:=Lib.hid (tell_nil w)
 clear h hn hE hd;go_enter Tryz.func71,Tryz.ntmps71
 go_wp2_with fail;refine HTN.out.mono ?_
 rintro e w1 ⟨rfl,hw⟩
 obtain rfl:=hw
 go_wp2_with fail;refine HNO.out.mono ?_
 rintro e w2 ⟨rfl,h2⟩
 have H2:=Lib.hid h2
 clear h2 c9;go_wp2_with fail;go_ret;exact⟨rfl,H2.out⟩
theorem after_fell (h:WS w0 w x p l most B S sv ss d g va vg vm ve W) (hH:Handle w0) :
  Calls Tryz.prog 71 #[.pointer (some ⟨x,0,none⟩),.iface 65 (.int .i64 14)] w fun e w'=>e = .returned (.bool true)∧∃ B',WS w0 w' x p l most B' S sv ss d g va vg vm ve W.fell:=by
 have HH:=Lib.hid h
 have HTE:=Lib.hid (tell_errno 14 w (h.hand hH).1)
 clear h hH;go_enter Tryz.func71,Tryz.ntmps71
 go_wp2_with fail;refine HTE.out.mono ?_
 rintro e w1 ⟨rfl,hc1⟩
 have HH1:=Lib.hid (HH.out.nil hc1)
 have c9:=HH1.out.wm.c.cell (j:=9) rfl
 have f9:=HH1.out.wm.c.free 9
 clear hc1;go_wp2_with fail;go_ret;exact⟨rfl,HH1.out.cell 9 (.bool true) rfl (HH1.out.wm.c.set 9 _) rfl rfl rfl rfl⟩
theorem after_state (h:WS w0 w x p l most B S sv ss d g va vg vm ve W) (hH:Handle w0) (hd:W.down=true) :
  Calls Tryz.prog 71 #[.pointer (some ⟨x,0,none⟩),.iface 65 (.int .i64 6)] w fun e w'=>e = .returned (.bool true)∧WS w0 w' x p l most B S sv ss d g va vg vm ve W:=by
 have HH:=Lib.hid h
 have HTE:=Lib.hid (tell_errno 6 w (h.hand hH).1)
 have HD:=Lib.hid hd
 clear h hH hd;go_enter Tryz.func71,Tryz.ntmps71
 go_wp2_with fail;refine HTE.out.mono ?_
 rintro e w1 ⟨rfl,hc1⟩
 have HH1:=Lib.hid (HH.out.nil hc1)
 have c9:w1.cell? ⟨x,9,none⟩=some (.bool W.down):=HH1.out.wm.c.cell (j:=9) rfl
 rw[HD.out] at c9;clear hc1;go_wp2_with fail;go_ret;exact⟨rfl,HH1.out⟩
theorem after_else (h:WS w0 w x p l most B S sv ss d g va vg vm ve W) (hH:Handle w0) (k:Nat) (h0:k≠0) (h6:k≠6) (h14:k≠14) :
  Calls Tryz.prog 71 #[.pointer (some ⟨x,0,none⟩),.iface 65 (.int .i64 (k:Nat))] w fun e w'=>e = .returned (.bool true)∧WS w0 w' x p l most B S sv ss d g va vg vm ve W:=by
 have HH:=Lib.hid h
 have HTE:=Lib.hid (tell_errno (k:Nat) w (h.hand hH).1)
 have e0:((k:Int)==0)=false:=beq_eq_false_iff_ne.2 (by omega)
 have e6:((k:Int)==6)=false:=beq_eq_false_iff_ne.2 (by omega)
 have e14:((k:Int)==14)=false:=beq_eq_false_iff_ne.2 (by omega)
 clear h hH h0 h6 h14;go_enter Tryz.func71,Tryz.ntmps71
 go_wp2_with fail;refine HTE.out.mono ?_
 rintro e w1 ⟨rfl,hc1⟩
 have HH1:=Lib.hid (HH.out.nil hc1)
 clear hc1;go_wp2_with fail;go_ret;exact⟨rfl,HH1.out⟩
end
section
variable {w:World} {l:Nat} {c0 c1 c2 c3 c4 c5:Value}
theorem ladd_down (hb:Box w l [c0,c1,c2,c3,c4,c5,.bool true] 99) (v:Value) :
  Calls Tryz.prog 12 #[.pointer (some ⟨l,0,none⟩),v] w fun e w'=>e = .returned (.tuple #[.int .i64 0,.iface 65 (.int .i64 6)])∧w'=w:=by
 have c6:=hb.cell (j:=6) rfl
 clear hb;go_enter Tryz.func12,Tryz.ntmps12
 go_wp2_with fail;go_ret2;exact⟨rfl,rfl⟩
theorem lflush_down (hb:Box w l [c0,c1,c2,c3,c4,c5,.bool true] 99) :
  Calls Tryz.prog 32 #[.pointer (some ⟨l,0,none⟩)] w fun e w'=>e = .returned (.iface 65 (.int .i64 6))∧w'=w:=by
 have c6:=hb.cell (j:=6) rfl
 clear hb;go_enter Tryz.func32,Tryz.ntmps32
 go_wp2_with fail;go_ret;exact⟨rfl,rfl⟩
theorem lforget_down (hb:Box w l [c0,c1,c2,c3,c4,c5,.bool true] 99) (tg:Int) :
  Calls Tryz.prog 37 #[.pointer (some ⟨l,0,none⟩),.int .i64 tg] w fun e w'=>e = .returned (.iface 65 (.int .i64 6))∧w'=w:=by
 have c6:=hb.cell (j:=6) rfl
 clear hb;go_enter Tryz.func37,Tryz.ntmps37
 go_wp2_with fail;go_ret;exact⟨rfl,rfl⟩
theorem lretain_down (hb:Box w l [c0,c1,c2,c3,c4,c5,.bool true] 99) (now age bytes:Int) :
  Calls Tryz.prog 18 #[.pointer (some ⟨l,0,none⟩),.int .i64 now,.int .i64 age,.int .i64 bytes] w fun e w'=>e = .returned (.tuple #[.int .i64 0,.iface 65 (.int .i64 6)])∧w'=w:=by
 have c6:=hb.cell (j:=6) rfl
 clear hb;go_enter Tryz.func18,Tryz.ntmps18
 go_wp2_with fail;go_ret2;exact⟨rfl,rfl⟩
theorem lcompact_down (hb:Box w l [c0,c1,c2,c3,c4,c5,.bool true] 99) (now age:Int) :
  Calls Tryz.prog 20 #[.pointer (some ⟨l,0,none⟩),.int .i64 now,.int .i64 age] w fun e w'=>e = .returned (.tuple #[.int .i64 0,.iface 65 (.int .i64 6)])∧Chg Nil w w':=by
 have HF:Hid (∀ w',Chg Nil w w'→Calls Tryz.prog 32 #[.pointer (some ⟨l,0,none⟩)] w' fun e w''=>e = .returned (.iface 65 (.int .i64 6))∧w''=w'):=fun w' hw=>lflush_down (hb.chg hw (fun h=>h))
 have hal:Chg Nil w ((w.alloc (.cells #[.int .i64 now] 3)).alloc (.cells #[.int .i64 age] 3)):=((Chg.refl Nil w).alloc _).alloc _
 have HAL:=Lib.hid hal
 clear hb hal;go_enter Tryz.func20,Tryz.ntmps20
 go_wp2_with fail;refine (HF.out _ HAL.out).mono ?_
 rintro e w1 ⟨rfl,h1⟩
 obtain rfl:=h1.symm
 go_wp2_with fail;go_ret2;exact⟨rfl,HAL.out⟩
end
theorem dfail_any {w:World}{p:Nat}{S:Nat→Prop}{d:Dk}(h:DiskAt w p S d) (n:Int)(hn:n≤9223372036854775807) :
  Calls Tryz.prog 70 #[.pointer (some ⟨p,0,none⟩),.int .i64 n] w fun e w'=>e = .returned (.tuple #[])∧DiskAt w' p S { d with left:=max n (-1) }∧Chg S w w':=by
 obtain⟨mb,fs,sv,con,hd,hfs,hS,hok⟩:=h
 have c2:=hd.c.cell (j:=2) rfl
 have y2:=hd.c.free 2
 have HT:=Lib.hid (hd.turned (max n (-1)))
 have HFS:=Lib.hid hfs
 have HS:=Lib.hid hS
 have HOK:=Lib.hid hok
 clear hd hfs hS hok;go_enter Tryz.func70,Tryz.ntmps70
 go_wp2_with fail;go_end0
 have ho:=HOK.out
 refine⟨rfl,⟨mb,fs,sv,con,HT.out.1,HFS.out,HS.out,⟨ho.nodup,ho.safe,ho.fits,ho.room,ho.few,?_,ho.short⟩⟩,HT.out.2.weak (fun k hk=>.inl (HS.out k (.inl hk)))⟩
 show -1≤max n (-1)∧max n (-1)≤9223372036854775807
 omega
def ResOk (W W1:Wd) (k:Nat) (d':Dk) (g':Lg) (m:Nat):Prop:=
 (k=0∧W.down=false∧∃ ys z,WUp (W1.note g') d' g' ys z (m+1))∨
 (k=14∧g'.down=true∧∃ g2 ys z,WC W d' g2 ys z (m+1))∨
 (k=6∧W.down=true∧WPl W d' g' (m+1))∨
 (k≠0∧k≠6∧k≠14∧WPl W d' g' (m+1))
theorem WPl.more {W:Wd}{d:Dk}{g:Lg}{m:Nat}(h:WPl W d g m):WPl W d g (m+1):=by
 rcases h with ⟨ys,z,h⟩ | ⟨h1,h2,g2,ys,z,h⟩
 ·exact .inl ⟨ys,z,⟨h.c.more (Nat.le_succ _),h.only,h.recs,h.dn⟩⟩
 ·exact .inr ⟨h1,h2,g2,ys,z,h.more (Nat.le_succ _)⟩
theorem WC.failed {W:Wd}{d:Dk}{g:Lg}{ys:List SgB}{z:SgB}{m:Nat}(h:WC W d g ys z m) {n:Int}(hn:-1≤n∧n≤9223372036854775807):WC W { d with left:=n } g ys z m:=by
 have hok:({ d with left:=n }:Dk).Ok:=⟨h.up.ok.ok.nodup,h.up.ok.ok.safe,h.up.ok.ok.fits,h.up.ok.ok.room,h.up.ok.ok.few,hn,h.up.ok.ok.short⟩
 exact⟨⟨⟨h.up.ok.segs,h.up.ok.ne,fun x hx=>(h.up.ok.each x hx).other rfl,h.up.ok.line,h.up.ok.only,h.up.ok.kn,hok,h.up.ok.lo,h.up.ok.hi⟩,h.up.up,h.up.sf.same (fun _ _=>rfl)⟩,h.pre,h.dir,h.room,h.offs,h.gl,h.ml,h.stop,h.recs,h.gm,h.ends,h.safe,h.tot,h.segs,h.many,h.few,h.rok⟩
theorem WPl.failed {W:Wd}{d:Dk}{g:Lg}{m:Nat}(h:WPl W d g m) {n:Int}(hn:-1≤n∧n≤9223372036854775807):WPl W { d with left:=n } g m:=by
 rcases h with ⟨ys,z,h⟩ | ⟨h1,h2,g2,ys,z,h⟩
 ·exact .inl ⟨ys,z,⟨h.c.failed hn,h.only,h.recs,h.dn⟩⟩
 ·exact .inr ⟨h1,h2,g2,ys,z,h.failed hn⟩
theorem WRes.ok {W W1:Wd}{m e:Nat}{d':Dk}{g':Lg}(h:WRes W W1 m e d' g')(hd:W.down=false):ResOk W W1 e d' g' m:=by
 rcases h with ⟨h1,h2⟩ | ⟨h1,h2,h3⟩
 ·exact .inl ⟨h1,hd,h2⟩
 ·exact .inr (.inl ⟨h1,h2,h3⟩)
section
variable {w0 w:World} {x p l:Nat} {most:Int} {B S:Nat→Prop} {sv:Value} {ss:List (Nat×Value)} {d:Dk} {g:Lg} {va vg vm ve:Value} {W:Wd} {m:Nat}
theorem WS.downBox (h:WS w0 w x p l most B S sv ss d g va vg vm ve W)(hd:g.down=true):Box w l [.pointer (some ⟨p,0,none⟩),.string ⟨g.dir.toArray⟩,.int .i64 g.most,sv,.int .i64 g.start,.int .i64 g.safe,.bool true] 99:=by
 have h1:=h.lg.c
 unfold Lg.cells at h1;rw[hd] at h1;exact h1
def OpAt (w0 w:World) (x p l:Nat) (most:Int) (B:Nat→Prop) (va vg vm ve:Value) (W:Wd) (n:Nat) (w':World) (Q:Dk→Lg→Prop):Prop:=
 ∃ S' sv' ss' d' g',WS w0 w' x p l most B S' sv' ss' d' g' va vg vm ve W∧ss'.length≤n+1∧Q d' g'∧Chg (Off B) w w'
theorem op_flush (h:WS w0 w x p l most B S sv ss d g va vg vm ve W)(hp:WPl W d g m)(hm:m≤62)(hH:Handle w0) :
  Calls Tryz.prog 32 #[.pointer (some ⟨l,0,none⟩)] w fun e w'=>∃ k:Nat,e = .returned (errD k)∧OpAt w0 w x p l most B va vg vm ve W ss.length w' fun d' g'=>ResOk W W k d' g' m:=by
 rcases hp with ⟨ys,z,hu⟩ | ⟨h1,h2,g2,ys,z,hc⟩
 ·have hn:=hu.needs h hH (by omega)
  refine (lflush_any h.lg hn).mono ?_
  rintro e w' ⟨he,⟨S',h3⟩,h4⟩
  exact⟨_,he,S',sv,ss,_,_,h.log h3 h4 h.ne,Nat.le_succ _,hu.flush.ok hu.dn,h4⟩
 ·refine (lflush_down (h.downBox h1)).mono ?_
  rintro e w' ⟨he,hw⟩
  obtain rfl:=hw.symm
  exact⟨6,he,S,sv,ss,d,g,h,Nat.le_succ _,.inr (.inr (.inl ⟨rfl,h2,.inr ⟨h1,h2,g2,ys,z,hc.more (Nat.le_succ _)⟩⟩)),Chg.refl _ _⟩
theorem op_forget (h:WS w0 w x p l most B S sv ss d g va vg vm ve W)(hp:WPl W d g m)(hm:m≤62)(hH:Handle w0) (tg:Int)(h0:0≤tg)(h1:tg≤W.all.length) :
  Calls Tryz.prog 37 #[.pointer (some ⟨l,0,none⟩),.int .i64 tg] w fun e w'=>∃ k:Nat,e = .returned (errD k)∧OpAt w0 w x p l most B va vg vm ve W ss.length w' fun d' g'=>ResOk W W k d' g' m:=by
 rcases hp with ⟨ys,z,hu⟩ | ⟨hd1,hd2,g2,ys,z,hc⟩
 ·have hn:=hu.needs h hH (by omega)
  have hsl:=hu.ssl h
  have hseg:=hu.c.segs
  refine (lforget_any h.lg hn (by omega) (fun s hs=>(hu.c.up.ok.fit (by rw[hu.c.dir];simp) s hs).1) tg).mono ?_
  rintro e w' ⟨he,⟨S',sv',ss',h3,h5,h6⟩,h4⟩
  exact⟨_,he,S',sv',ss',_,_,h.log h3 h4 h5,by omega,(hu.forget h0 h1).ok hu.dn,h4⟩
 ·refine (lforget_down (h.downBox hd1) tg).mono ?_
  rintro e w' ⟨he,hw⟩
  obtain rfl:=hw.symm
  exact⟨6,he,S,sv,ss,d,g,h,Nat.le_succ _,.inr (.inr (.inl ⟨rfl,hd2,.inr ⟨hd1,hd2,g2,ys,z,hc.more (Nat.le_succ _)⟩⟩)),Chg.refl _ _⟩
theorem after_all (h:WS w0 w x p l most B S sv ss d g va vg vm ve W)(hss:ss.length≤m+3)(hm:m≤62)(hH:Handle w0) (k:Nat)(hr:ResOk W W k d g m) :
  Calls Tryz.prog 71 #[.pointer (some ⟨x,0,none⟩),errD k] w fun e w'=>e = .returned (.bool true)∧∃ W',WSt w0 w' x p most W' (m+1):=by
 rcases hr with ⟨rfl,hd,ys,z,hu⟩ | ⟨rfl,hd,g2,ys,z,hc⟩ | ⟨rfl,hd,hp⟩ | ⟨h0,h6,h14,hp⟩
 ·have hn:LgN B w ss g:=hu.needs' h.lg (h.hand hH).1 (h.hand hH).2 (by omega)
  have hE:W.ends.length≤1000:=by
   have h1:=hu.c.few
   have h1:(W.ends++[g.stop]).length≤m+1+1:=h1
   rw[List.length_append,List.length_singleton] at h1;omega
  refine (after_ok h hn hE hd).mono ?_
  rintro e w' ⟨he,B',ve',h1⟩
  exact⟨he,_,l,B',S,sv,ss,d,g,va,vg,vm,ve',h1,by omega,.inl ⟨ys,z,hu⟩⟩
 ·refine (after_fell h hH).mono ?_
  rintro e w' ⟨he,B',h1⟩
  exact⟨he,_,l,B',S,sv,ss,d,g,va,vg,vm,ve,h1,by omega,.inr ⟨hd,rfl,g2,ys,z,hc.fell⟩⟩
 ·refine (after_state h hH hd).mono ?_
  rintro e w' ⟨he,h1⟩
  exact⟨he,_,l,B,S,sv,ss,d,g,va,vg,vm,ve,h1,by omega,hp⟩
 ·rw[errD_ne h0]
  refine (after_else h hH k h0 h6 h14).mono ?_
  rintro e w' ⟨he,h1⟩
  exact⟨he,_,l,B,S,sv,ss,d,g,va,vg,vm,ve,h1,by omega,hp⟩
end
theorem OwnL.put {w:World}{g n cap:Nat}{l:List Bool}(h:OwnL w (.slice (some ⟨g,0,none⟩) n cap) l) (i:Nat)(hi:i<l.length) (b:Bool):w.frozen? ⟨g,i,none⟩=false∧OwnL (w.setCell ⟨g,i,none⟩ (.bool b)) (.slice (some ⟨g,0,none⟩) n cap) (l.set i b):=by
 constructor
 ·rcases h.2 with ⟨hv,_⟩ | ⟨g',cap',cur,hv,_,hg,_⟩
  ·cases hv
  ·obtain rfl:g=g':=by have:=Option.some.inj (Value.slice.inj hv).1;exact (Addr.mk.inj this).1
   simp[World.frozen?,hg]
 ·unfold OwnL;rw[List.length_set,List.map_set];exact ownsRow_set h i (by simpa using hi) (.bool b)
theorem OwnR.atRow {w:World}{e:TypeId}{a:Option Addr}{n c:Nat}{rs:List Rec}(h:OwnR e w (.slice a n c) rs):∀ i (h:i<rs.length),∃ g,a=some ⟨g,0,none⟩∧∀ j u,(rs[i].cells)[j]? = some u→w.cell? ⟨g,i*6+j,none⟩=some u:=by
 obtain⟨a',c',he,_,h2⟩:=h.valAt
 obtain⟨rfl,_,_⟩:=Value.slice.inj he
 exact h2
theorem offUp_lt:∀ {n:Int}{l:List Rec},offUp n l→∀ {i j:Nat}(hi:i<l.length)(hj:j<l.length),i<j→l[i].off<l[j].off
 | _,a::l,h,0,j+1,_,hj,_=>by
  have hj2:j<l.length:=by simpa using hj
  have:=offUp_mem h.2 (l[j]'hj2) (List.getElem_mem _)
  show a.off<(l[j]'hj2).off
  omega
 | _,a::l,h,i+1,j+1,hi,hj,hij=>offUp_lt h.2 (i:=i) (j:=j) (by simpa using hi) (by simpa using hj) (by omega)
theorem missL_succ {b i:Nat}(h:b≤i) (T:List Rec):missL b (i+1) T=if missing T i=true then missL b i T++[i] else missL b i T:=by
 unfold missL;have e:i+1-b=(i-b)+1:=by omega
 have e2:b+(i-b)=i:=by omega
 rw[e,List.range'_1_concat,List.filter_append,e2];by_cases hm:missing T i=true
 ·rw[if_pos hm]
  simp[hm]
 ·rw[if_neg hm]
  simp[hm]
theorem missL_nil (b:Nat) (T:List Rec):missL b b T=[]:=by unfold missL;simp
section
variable {w0 w w':World} {x p l:Nat} {most:Int} {B S:Nat→Prop} {sv:Value} {ss:List (Nat×Value)} {d:Dk} {g:Lg} {va vg vm ve:Value} {W:Wd}
theorem WS.goneSet {gb n cap:Nat}(h:WS w0 w x p l most B S sv ss d g va (.slice (some ⟨gb,0,none⟩) n cap) vm ve W) (i:Nat)(hi:i<W.gone.length)(hw:w.setCell ⟨gb,i,none⟩ (.bool true)=w') :
  Chg (fun k=>k=gb) w w'∧∃ B',WS w0 w' x p l most B' S sv ss d g va (.slice (some ⟨gb,0,none⟩) n cap) vm ve { W with gone:=W.gone.set i true }:=by
 subst hw;have hsc:Chg (fun k=>k=gb) w (w.setCell ⟨gb,i,none⟩ (.bool true)):=(Chg.refl (fun k=>k=gb) _).setCell (.inl rfl) _
 have hm:=h.wm
 have hgb:WHas x va (.slice (some ⟨gb,0,none⟩) n cap) vm ve gb:=.inr (.inr (.inl rfl))
 refine⟨hsc,_,h.law (hsc.weak (fun k hk=>.inl (by rw[hk];exact hgb))) ⟨hm.c.chg hsc (fun e=>hm.ne.2.1 (by rw[e];rfl)),ownsRow_chg hm.a hsc (fun k hk e=>rows_ne hm.a hm.g (by decide) hk (by rw[e];rfl)),(hm.g.put i hi true).2,ownsRow_chg hm.m hsc (fun k hk e=>hm.gm gb rfl (e ▸ hk)),ownsRow_chg hm.e hsc (fun k hk e=>rows_ne hm.e hm.g (by decide) hk (by rw[e];rfl)),hm.new,hm.gm⟩ (fun k hk=>.inl hk)⟩
end
theorem looks_any {w0 w:World} {x p l:Nat} {most:Int} {B S:Nat→Prop} {sv:Value} {ss:List (Nat×Value)} {d:Dk} {g:Lg} {va vg vm ve:Value} {W:Wd} (h:WS w0 w x p l most B S sv ss d g va vg vm ve W) {xs:List SgB} (hk:LgOk d g xs) (hdir:g.dir.length≤100) (hfew:ss.length≤9999)
  {T:List Rec} (hT:g.told xs=T) (hTl:T.length≤4000) {b:Nat} (hst:g.start=(b:Nat)) (hbe:b≤W.all.length) (hL:LooksOk W b T) (hlen:W.all.length≤4000) (hgl:W.gone.length=W.all.length) (hml:W.may.length=W.all.length) :
  Calls Tryz.prog 25 #[.pointer (some ⟨x,0,none⟩)] w fun e w'=>e = .returned (.bool true)∧∃ B',WS w0 w' x p l most B' S sv ss d g va vg vm ve (W.seen (missL b W.all.length T)):=by
 have c1:w.cell? ⟨x,1,none⟩=some (.pointer (some ⟨l,0,none⟩)):=h.wm.c.cell (j:=1) rfl
 have HALL:Hid (Calls Tryz.prog 13 #[.pointer (some ⟨l,0,none⟩),.int .i64 300] w fun e w'=>∃ v,e = .returned (.tuple #[v,.bool true])∧OwnR 37 w' v T∧(∀ k,v.ownBlock=some k→w.heap.size≤k)∧Chg Nil w w'):=by
  have h1:=lall_any h.lg hk hdir (by omega) 300 (by rw[hT];exact hTl)
  rw[hT] at h1;exact h1
 have HH:=Lib.hid h
 have HSTA:Hid (∀ w',Box w' l (g.cells p sv) 99→Calls Tryz.prog 16 #[.pointer (some ⟨l,0,none⟩)] w' fun e w''=>e = .returned (.int .i64 (b:Nat))∧Chg Nil w' w''):=fun w' hb=>by
  have h1:=lstart_any hb
  rw[hst] at h1;exact h1
 obtain⟨N,hN⟩:∃ N,W.all.length=N:=⟨_,rfl⟩
 rw[hN] at hlen hgl hml hbe
 have HN:=Lib.hid hN
 have HGL:=Lib.hid hgl
 have HML:=Lib.hid hml
 have HBE:=Lib.hid hbe
 have HL:=Lib.hid hL
 have HTL:=Lib.hid hTl
 rw[hN];clear h hk hdir hfew hT hTl hst hL hgl hml hN hbe;go_enter Tryz.func25,Tryz.ntmps25
 go_wp2_with fail;refine HALL.out.mono ?_
 rintro e w1 ⟨v,rfl,hov,hvn,hc1⟩
 have HS1:=Lib.hid (HH.out.nil hc1)
 have c1':w1.cell? ⟨x,1,none⟩=some (.pointer (some ⟨l,0,none⟩)):=HS1.out.wm.c.cell (j:=1) rfl
 have HNV:Hid (∀ k,v.ownBlock=some k→¬WHas x va vg vm ve k):=fun k hk hw=>by
  have h1:=hvn k hk
  have h2:=HH.out.wm.lt k hw
  omega
 have HOV:=Lib.hid hov
 have hvf:=hov.form
 generalize vA v=ta at hvf;generalize vC v=tc at hvf;subst hvf;obtain⟨n,hn⟩:∃ n,T.length=n:=⟨_,rfl⟩
 have HTN:=Lib.hid hn
 have hnl:n≤4000:=by rw[←hn];exact HTL.out
 rw[hn] at HOV HNV ⊢
 clear hov hvn hc1 c1 hn HALL HH;go_wp2_with fail;refine (HSTA.out w1 HS1.out.lg.c).mono ?_
 rintro e w2 ⟨rfl,hc2⟩
 have HS2:=Lib.hid (HS1.out.nil hc2)
 have HOV2:Hid (OwnR 37 w2 (.slice ta n tc) T):=ownsRow_chg HOV.out hc2 (fun _ _ h=>h)
 clear hc2 c1' HS1 HOV;go_wp2_with fail;go_loopw [5,6] (fun kv iv wr=>∃ (wq:World) (i k:Nat) (B1:Nat→Prop),wq=wr∧iv = .int .i64 (i:Nat)∧kv = .int .i64 (k:Nat)∧Hid (b≤i∧i≤N)∧Hid (k≤n)∧Hid (∀ j (hj:j<T.length),j<k→T[j].off<(i:Nat))∧Hid (∀ j (hj:j<T.length),k≤j→(i:Int)≤T[j].off)∧Hid (WS w0 wr x p l most B1 S sv ss d g va vg vm ve (W.seen (missL b i T)))∧Hid (OwnR 37 wr (.slice ta n tc) T)) (fun _ iv _=>N-(RowKit.intOf iv).toNat)
 case atStart=>
  refine⟨_,b,0,B,rfl,rfl,rfl,⟨Nat.le_refl _,HBE.out⟩,Nat.zero_le _,fun j hj h=>absurd h (Nat.not_lt_zero _),fun j hj _=>offUp_mem HL.out.up _ (List.getElem_mem hj),?_,HOV2.out⟩
  rw[missL_nil];exact HS2.out
 case round=>
  obtain⟨wr,i,k,B1,rfl,rfl,rfl,HIB,HKN,HLO,HHI,HS,HOR⟩:=hrel
  have c3:wr.cell? ⟨x,3,none⟩=some va:=HS.out.wm.c.cell (j:=3) rfl
  obtain⟨aa,ac,hva,_,hacell⟩:=HS.out.wm.a.valAt
  rw[show (W.seen (missL b i T)).all.length=N from HN.out] at hva
  subst hva;have hiN:i≤N:=HIB.out.2
  have HACELL:=Lib.hid hacell
  clear hacell HS2 HOV2;by_cases hin:i<N
  ·have hii:(i:Int)<(N:Int):=by omega
   have hiG:i<(W.seen (missL b i T)).gone.length:=by show i<(mkL _ W.gone).length;rw[mkL_len,HGL.out];exact hin
   have hiM:i<W.may.length:=by rw[HML.out];exact hin
   have hiA:i<W.all.length:=by rw[HN.out];exact hin
   have HIN:=Lib.hid hin
   have HIG:Hid (∀ _:True,i<(W.seen (missL b i T)).gone.length):=fun _=>hiG
   have hLi:=HL.out.at' i HIB.out.1 hiA
   cases hmi:missing T i with
   | false=>
    have hgone:W.gone.getD i false=false:=by
     rcases hLi with ⟨_,h2⟩ | ⟨h1,_⟩
     ·exact h2
     ·rw[hmi] at h1;cases h1
    obtain⟨r,hr,hro⟩:=missing_false.1 hmi
    obtain⟨j,hj,hje⟩:=List.getElem_of_mem hr
    have hjk:j=k:=by
     rcases Nat.lt_trichotomy j k with h1 | h1 | h1
     ·have h2:=HLO.out j hj h1
      rw[hje] at h2;omega
     ·exact h1
     ·exfalso
      have hk2:k<T.length:=by omega
      have h2:=HHI.out k hk2 (Nat.le_refl _)
      have h3:=offUp_lt HL.out.up hk2 hj h1
      rw[hje] at h3;omega
    subst hjk;have hkn:j<n:=by rw[←HTN.out];exact hj
    have hki:(j:Int)<(n:Int):=by omega
    have hsame:=HL.out.same r hr
    rw[hro,Int.toNat_natCast] at hsame;obtain⟨tb,ht,htz⟩:=HOR.out.atRow j hj
    rw[hje] at htz;obtain⟨ab,ha,haz⟩:=HACELL.out i hiA
    have har:W.all[i]=r:=by rw[List.getElem?_eq_getElem hiA] at hsame;exact Option.some.inj hsame
    have haz2:∀ t u,(r.cells)[t]? = some u→wr.cell? ⟨ab,i*6+t,none⟩=some u:=fun t u hu=>haz t u (by show (W.all[i].cells)[t]? = _;rw[har];exact hu)
    obtain⟨ga,gc,hvg,_,hgcell⟩:=HS.out.wm.g.val
    obtain⟨gb,hgb,hgz⟩:=hgcell i hiG
    have hgv:(W.seen (missL b i T)).gone[i]'hiG=false:=by
     have h1:(mkL (missL b i T) W.gone).getD i false=false:=by
      rw[mkL_get _ _ i (by rw[HGL.out];exact hin),hgone,Bool.or_false]
      refine decide_eq_false fun hm=>?_
      have h2:=List.mem_range'_1.1 (List.mem_filter.1 hm).1
      have:=HIB.out.1
      omega
     have h2:(mkL (missL b i T) W.gone)[i]? = some ((W.seen (missL b i T)).gone[i]'hiG):=List.getElem?_eq_getElem hiG
     rw[List.getD_eq_getElem?_getD,h2] at h1
     exact h1
    rw[hgv] at hgz;have HNX:Hid (missL b (i+1) T=missL b i T):=by rw[missL_succ HIB.out.1,hmi];rfl
    have HGAP:Hid (∀ j2 (hj2:j2<T.length),j+1≤j2→((i+1:Nat):Int)≤T[j2].off):=fun j2 hj2 hle=>by
     have h3:=offUp_lt HL.out.up hj hj2 (by omega)
     rw[hje] at h3;omega
    have HLO2:Hid (∀ j2 (hj2:j2<T.length),j2<j+1→T[j2].off<((i+1:Nat):Int)):=fun j2 hj2 hlt=>by
     rcases Nat.lt_or_eq_of_le (Nat.le_of_lt_succ hlt) with h1 | rfl
     ·have h2:=HLO.out j2 hj2 h1;omega
     ·rw[hje];omega
    have HGLN:Hid ((W.seen (missL b i T)).gone.length=N):=by show (mkL _ W.gone).length=N;rw[mkL_len];exact HGL.out
    rw[HGLN.out] at hvg;subst hvg ht ha hgb;have c4:wr.cell? ⟨x,4,none⟩=some (.slice (some ⟨gb,0,none⟩) N gc):=HS.out.wm.c.cell (j:=4) rfl
    have HKN2:Hid (j+1≤n):=hkn
    obtain⟨ro,rt,rk,rkey,rg,rv⟩:=r
    have hro:ro=(i:Nat):=hro
    subst hro;have x0:=htz 0 _ rfl
    have x1:=htz 1 _ rfl
    have x2:=htz 2 _ rfl
    have x3:=htz 3 _ rfl
    have x4:=htz 4 _ rfl
    have x5:=htz 5 _ rfl
    have y0:=haz2 0 _ rfl
    have y1:=haz2 1 _ rfl
    have y2:=haz2 2 _ rfl
    have y3:=haz2 3 _ rfl
    have y4:=haz2 4 _ rfl
    have y5:=haz2 5 _ rfl
    rw[Nat.add_zero] at x0 y0
    clear hLi hmi hgone hr hj hje hsame htz haz haz2 har hgcell hgv hiG hiM hiA hin hkn;go_upto_region 9 with fail;go_quiet (fail)
    go_wp2_with fail;go_roundw
    case rel=>
     refine⟨_,i+1,j+1,B1,rfl,by go_num,by go_num,⟨by have:=HIB.out.1;omega,HIN.out⟩,HKN2.out,HLO2.out,HGAP.out,?_,?_⟩
     ·rw[HNX.out];exact HS.out.nil ((Chg.refl Nil wr).drewN _)
     ·exact ownsRow_chg HOR.out ((Chg.refl Nil wr).drewN _) (fun _ _ h=>h)
    case measure=>exact meas_two HIN.out
   | true=>
    have hmay:W.may.getD i false=true:=by
     rcases hLi with ⟨h1,_⟩ | ⟨_,h2⟩
     ·rw[hmi] at h1;cases h1
     ·exact h2
    have HMT:=Lib.hid (missing_true.1 hmi)
    obtain⟨ma,mc,hvm,_,hmcell⟩:=HS.out.wm.m.val
    rw[show (W.seen (missL b i T)).may.length=N from HML.out] at hvm
    obtain⟨mb,hmb,hmz⟩:=hmcell i hiM
    have hmv:(W.seen (missL b i T)).may[i]'hiM=true:=by
     have h2:W.may[i]? = some (W.may[i]):=List.getElem?_eq_getElem hiM
     rw[List.getD_eq_getElem?_getD,h2] at hmay
     exact hmay
    rw[hmv] at hmz;obtain⟨ga,gc,hvg,_,hgcell⟩:=HS.out.wm.g.val
    obtain⟨gb,hgb,hgz⟩:=hgcell i hiG
    have HGLN:Hid ((W.seen (missL b i T)).gone.length=N):=by show (mkL _ W.gone).length=N;rw[mkL_len];exact HGL.out
    rw[HGLN.out] at hvg;subst hvg hvm hmb hgb;have HNX:Hid (missL b (i+1) T=missL b i T++[i]):=by rw[missL_succ HIB.out.1,hmi];rfl
    have HGAP:Hid (∀ j2 (hj2:j2<T.length),k≤j2→((i+1:Nat):Int)≤T[j2].off):=fun j2 hj2 hle=>by
     have h2:=HHI.out j2 hj2 hle
     have h3:=HMT.out _ (List.getElem_mem hj2)
     omega
    have HLO2:Hid (∀ j2 (hj2:j2<T.length),j2<k→T[j2].off<((i+1:Nat):Int)):=fun j2 hj2 hlt=>by
     have h2:=HLO.out j2 hj2 hlt;omega
    have c5:wr.cell? ⟨x,5,none⟩=some (.slice (some ⟨mb,0,none⟩) N mc):=HS.out.wm.c.cell (j:=5) rfl
    have c4:wr.cell? ⟨x,4,none⟩=some (.slice (some ⟨gb,0,none⟩) N gc):=HS.out.wm.c.cell (j:=4) rfl
    obtain⟨ov,hov⟩:∃ ov,(W.seen (missL b i T)).gone[i]'hiG=ov:=⟨_,rfl⟩
    rw[hov] at hgz;have HGZ:=Lib.hid hgz
    have HC4:=Lib.hid c4
    clear hLi hmi hmay hmcell hgcell hmv hov hiG hiM hiA hin hgz c4;by_cases hkn:k<n
    ·have hki:(k:Int)<(n:Int):=by omega
     have hkT:k<T.length:=by rw[HTN.out];exact hkn
     obtain⟨tb,ht,htz⟩:=HOR.out.atRow k hkT
     have hne:=HMT.out _ (List.getElem_mem hkT)
     obtain⟨to',hto⟩:∃ to',T[k].off=to':=⟨_,rfl⟩
     have x0:=htz 0 _ (show (T[k].cells)[0]? = some (.int .i64 T[k].off) from rfl)
     rw[hto,Nat.add_zero] at x0;rw[hto] at hne;have hne:(to'==(i:Int))=false:=beq_eq_false_iff_ne.2 hne
     subst ht;clear htz hto hkT hkn;go_upto_region 9 with fail;go_quiet (fail)
     clear x0 hne hki c5 hmz c3;have hd:Chg Nil wr (wr.drewN nq):=(Chg.refl Nil wr).drewN _
     have HS3:=Lib.hid (HS.out.nil hd)
     have HOR3:Hid (OwnR 37 (wr.drewN nq) (.slice (some ⟨tb,0,none⟩) n tc) T):=ownsRow_chg HOR.out hd (fun _ _ h=>h)
     have c4:=hd.cell HC4.out (fun h=>h)
     have z0:=hd.cell HGZ.out (fun h=>h)
     clear hd;generalize wr.drewN nq=w3 at *;have hput:=HS3.out.goneSet i (HIG.out trivial) rfl
     have f0:=(HS3.out.wm.g.put i (HIG.out trivial) true).1
     have HPUT:=Lib.hid hput
     clear hput;go_wp2_with fail;go_roundw
     case rel=>
      obtain⟨hsc,B2,hS4⟩:=HPUT.out
      refine⟨_,i+1,k,B2,rfl,by go_num,rfl,⟨by have:=HIB.out.1;omega,HIN.out⟩,HKN.out,HLO2.out,HGAP.out,?_,?_⟩
      ·rw[HNX.out];unfold Wd.seen;rw[mkL_snoc];exact hS4
      ·exact ownsRow_chg HOR3.out hsc (fun q hq e=>HNV.out q hq (.inr (.inr (.inl (by rw[e];rfl)))))
     case measure=>exact meas_two HIN.out
    ·have hki:¬(k:Int)<(n:Int):=by omega
     clear hkn;go_upto_region 9 with fail;go_quiet (fail)
     clear hki c5 hmz c3;have hd:Chg Nil wr (wr.drewN nq):=(Chg.refl Nil wr).drewN _
     have HS3:=Lib.hid (HS.out.nil hd)
     have HOR3:Hid (OwnR 37 (wr.drewN nq) (.slice ta n tc) T):=ownsRow_chg HOR.out hd (fun _ _ h=>h)
     have c4:=hd.cell HC4.out (fun h=>h)
     have z0:=hd.cell HGZ.out (fun h=>h)
     clear hd;generalize wr.drewN nq=w3 at *;have hput:=HS3.out.goneSet i (HIG.out trivial) rfl
     have f0:=(HS3.out.wm.g.put i (HIG.out trivial) true).1
     have HPUT:=Lib.hid hput
     clear hput;go_wp2_with fail;go_roundw
     case rel=>
      obtain⟨hsc,B2,hS4⟩:=HPUT.out
      refine⟨_,i+1,k,B2,rfl,by go_num,rfl,⟨by have:=HIB.out.1;omega,HIN.out⟩,HKN.out,HLO2.out,HGAP.out,?_,?_⟩
      ·rw[HNX.out];unfold Wd.seen;rw[mkL_snoc];exact hS4
      ·exact ownsRow_chg HOR3.out hsc (fun q hq e=>HNV.out q hq (.inr (.inr (.inl (by rw[e];rfl)))))
     case measure=>exact meas_two HIN.out
  ·have hii:¬(i:Int)<(N:Int):=by omega
   obtain rfl:i=N:=by omega
   have hke:k=n:=by
    rcases Nat.lt_or_eq_of_le HKN.out with h1 | h1
    ·exfalso
     have hk2:k<T.length:=by rw[HTN.out];exact h1
     have h2:=HHI.out k hk2 (Nat.le_refl _)
     have h3:=HL.out.lt _ (List.getElem_mem hk2)
     rw[HN.out] at h3;omega
    ·exact h1
   subst hke;have hkb:((k:Int)==(k:Int))=true:=beq_self_eq_true _
   clear hin;go_wp2_with fail;go_ret;exact⟨rfl,B1,HS.out⟩
end Go.Proofs.YtdjmifaidgbbaaaGreatDoor
