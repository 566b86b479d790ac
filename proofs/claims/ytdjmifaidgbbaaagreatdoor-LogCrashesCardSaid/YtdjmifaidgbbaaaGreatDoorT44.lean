/-
  The law's world while the log is down: the disk and the world's own blocks. (Of the logs' seat.)
-/
import Derived.Test.YtdjmifaidgbbaaaGreatDoorT43
set_option linter.unusedVariables false
set_option linter.unusedSimpArgs false
set_option maxHeartbeats 0
set_option maxRecDepth 200000
namespace Go.Proofs.YtdjmifaidgbbaaaGreatDoor
open Go.RowKit Go.Maps
structure WD (w0 w:World) (x p l:Nat) (most:Int) (B S:Nat→Prop) (d:Dk) (va vg vm ve:Value) (W:Wd):Prop where
 ds:DsS B w p S d
 wm:WMem w0.heap.size w x p l most va vg vm ve W
 b0:∀ k,k<w0.heap.size→B k
 bw:∀ k,WHas x va vg vm ve k→B k
 ch:Chg Nil w0 w
section
variable {w0 w w':World} {x p l:Nat} {most:Int} {B S S':Nat→Prop} {sv sv':Value} {ss ss':List (Nat×Value)} {d d':Dk} {g g':Lg} {va vg vm ve:Value} {W:Wd}
theorem WS.wd (h:WS w0 w x p l most B S sv ss d g va vg vm ve W):WD w0 w x p l most B S d va vg vm ve W:=⟨h.lg.dsB (fun _ h=>h),h.wm,h.b0,h.bw,h.ch⟩
theorem WD.nil (h:WD w0 w x p l most B S d va vg vm ve W)(hc:Chg Nil w w'):WD w0 w' x p l most B S d va vg vm ve W:=
 ⟨h.ds.nil hc,h.wm.chg hc (fun _ _ h=>h),h.b0,h.bw,h.ch.trans hc (fun _ h=>h.elim)⟩
theorem WD.grow (h:WD w0 w x p l most B S d va vg vm ve W)(hc:Chg Nil w w'):WD w0 w' x p l most (fun k=>B k∨(w.heap.size≤k∧k<w'.heap.size)) S d va vg vm ve W:=
 ⟨h.ds.grow hc,h.wm.chg hc (fun _ _ h=>h),fun k hk=>.inl (h.b0 k hk),fun k hk=>.inl (h.bw k hk),h.ch.trans hc (fun _ h=>h.elim)⟩
theorem WD.disk (h:WD w0 w x p l most B S d va vg vm ve W)(hd:DiskAt w' p S' d')(hS:∀ k,S' k→S k∨(w.heap.size≤k∧k<w'.heap.size))(hc:Chg S w w') :
  WD w0 w' x p l most B S' d' va vg vm ve W∧Chg (Off B) w w':=by
 have hz:=hc.size
 have hcB:Chg (Off B) w w':=hc.weak fun k hk=>.inl (h.ds.sl k hk).1
 refine⟨⟨⟨fun k hk=>Nat.lt_of_lt_of_le (h.ds.lo k hk) hz,hd,fun k hk=>?_⟩,h.wm.chg hcB (fun k hk ho=>ho (h.bw k hk)),h.b0,h.bw,h.ch.trans hcB (fun k hk=>.inr (Nat.le_of_not_lt fun hlt=>hk (h.b0 k hlt)))⟩,hcB⟩
 rcases hS k hk with h1 | h1
 ·exact⟨(h.ds.sl k h1).1,Nat.lt_of_lt_of_le (h.ds.sl k h1).2 hz⟩
 ·exact⟨fun hb=>by have:=h.ds.lo k hb;omega,h1.2⟩
theorem WD.off (h:WD w0 w x p l most B S d va vg vm ve W)(hc:Chg (Off B) w w')(hd:DsS B w' p S' d'):WD w0 w' x p l most B S' d' va vg vm ve W:=
 ⟨hd,h.wm.chg hc (fun k hk ho=>ho (h.bw k hk)),h.b0,h.bw,h.ch.trans hc (fun k hk=>.inr (Nat.le_of_not_lt fun hlt=>hk (h.b0 k hlt)))⟩
def OpnF (w0:World) (x p l:Nat) (most:Int) (B S:Nat→Prop) (d d':Dk) (g':Lg) (va vg vm ve:Value) (W:Wd):List Value→World→Prop
 | [],w=>WD w0 w x p l most B S d va vg vm ve W
 | v::vs,w=>∃ s S' sv ss,v = .tuple #[.pointer (some ⟨s,0,none⟩),.nilIface]∧LgS B w p s S' sv ss d' g'∧WMem w0.heap.size w x p l most va vg vm ve W∧Chg Nil w0 w∧(∀ y,vs[0]? = some y→y=v)∧(∀ y,vs[1]? = some y→y = .pointer (some ⟨s,0,none⟩))∧(∀ y,vs[2]? = some y→y = .pointer (some ⟨s,0,none⟩))
end
theorem WPl.wk {W:Wd}{d:Dk}{g:Lg}{m:Nat}(h:WPl W d g m):∃ ys z,WK W d ys z m:=by
 rcases h with ⟨ys,z,h⟩ | ⟨_,_,g2,ys,z,h⟩
 ·exact⟨ys,z,h.c.wk⟩
 ·exact⟨ys,z,h.wk⟩
theorem WK.opens {W:Wd}{d:Dk}{ys:List SgB}{z:SgB}{m:Nat}(h:WK W d ys z m)(hm:m≤62) (most:Int) :
  ∃ C d' g',(∀ x∈d.list ([112]++[47]),¬progBase [112] x<0→FdOk d [112] (progBase [112] x).toNat (C (progBase [112] x).toNat))∧
   ((openLg C [112] most 0 d=(14,d',g')∧d.left≠-1∧WK W d' ys z m)∨(openLg C [112] most 0 d=(0,d',g')∧∃ z' e b,WOpen W d' g' ys z' m e b)):=by
 obtain⟨k,s,kp,hks⟩:=h.kp
 have hzb:z.1.base≤(W.all.length:Nat):=by
  have h1:=(lastEnd_le kp.zof.ok kp.zof.up).1
  rw[←kp.zof.next,h.stop] at h1;exact h1
 have hmn:=h.many
 have hof:∀ x∈ys++[z],SgOf x.1 x.2:=fun x hx=>(kp.nm x hx).2.2.2.2
 have hsm:∀ x∈ys++[z],x.1.base<10000000000:=fun x hx=>by
  rcases List.mem_append.1 hx with hx | hx
  ·have:=(lined_before hof kp.line x hx).2;omega
  ·rw[List.mem_singleton.1 hx];omega
 obtain⟨C,j,hC,hj,hs,d',g',hroom,hcase⟩:=open_kp kp hsm most
 refine⟨C,d',g',hC,?_⟩
 rcases hcase with ⟨h1,h2,k',h3⟩ | ⟨h1,h2⟩
 ·exact .inl ⟨h1,h2,⟨⟨k',s,h3,hks⟩,by rw[hroom];exact h.room,h.offs,h.gl,h.ml,h.stop,h.recs,h.gm,h.ends,h.tot,h.segs,h.many,h.few,h.rok⟩⟩
 ·obtain⟨e,b,ho⟩:=h.opened hm hj (by omega) hroom h2
  exact .inr ⟨h1,_,e,b,ho⟩
def OpnE (w0:World) (x p l:Nat) (most:Int) (B S:Nat→Prop) (d d':Dk) (va vg vm ve:Value) (W:Wd):List Value→World→Prop
 | [],w=>WD w0 w x p l most B S d va vg vm ve W
 | _::_,w=>∃ S',WD w0 w x p l most B S' d' va vg vm ve W
theorem OpnF.end' {w0:World}{x p l:Nat}{most:Int}{B S:Nat→Prop}{d d':Dk}{g':Lg}{va vg vm ve:Value}{W:Wd}{w:World}{v a b c:Value}(h:OpnF w0 x p l most B S d d' g' va vg vm ve W [v,a,b,c] w):c = .pointer (some ⟨vP c,0,none⟩)∧∃ S' sv ss,LgS B w p (vP c) S' sv ss d' g'∧WMem w0.heap.size w x p l most va vg vm ve W∧Chg Nil w0 w:=by
 obtain⟨s,S',sv,ss,h1,h2,h3,h4,_,_,h5⟩:=h
 obtain rfl:=h5 c rfl
 exact⟨rfl,S',sv,ss,h2,h3,h4⟩
theorem ownsRow_take {w:World}{e:TypeId}{size n c:Nat}{a:Option Addr}{xs:List Value}(h:w.ownsRow 0 e size (.slice a n c) n xs) {k:Nat}(hk:k≤n):w.ownsRow 0 e size (.slice a k c) k (xs.take (k*size)):=by
 rcases h.2 with ⟨hv,hn⟩ | ⟨g,cap,cur,hv,hb,hg,h1,h2,h3,h4⟩
 ·obtain⟨rfl,h0,rfl⟩:=Value.slice.inj hv
  have:k=0:=by omega
  subst this;exact⟨by simp,.inl ⟨rfl,rfl⟩⟩
 ·obtain⟨rfl,_,rfl⟩:=Value.slice.inj hv
  have hks:k*size≤n*size:=Nat.mul_le_mul_right _ hk
  refine⟨by rw[List.length_take,h.1];omega,.inr ⟨g,_,cur,rfl,hb,hg,by omega,h2,h3,?_⟩⟩
  rw[←h4,List.take_take,Nat.min_eq_left hks]
theorem recs_take:∀ (rs:List Rec) (k:Nat),(rs.take k).flatMap Rec.cells=(rs.flatMap Rec.cells).take (k*6)
 | [],k=>by simp
 | r::rs,0=>by simp
 | r::rs,k+1=>by
  have h6:r.cells.length=6:=rfl
  rw[List.take_succ_cons,List.flatMap_cons,List.flatMap_cons,recs_take rs k,show (k+1)*6=r.cells.length+k*6 by rw[h6];omega,List.take_length_add_append]
theorem OwnR.cut {e:TypeId}{w:World}{a:Option Addr}{n c:Nat}{rs:List Rec}(h:OwnR e w (.slice a n c) rs)(hn:rs.length=n) {k:Nat}(hk:k≤n):OwnR e w (.slice a k c) (rs.take k):=by
 have h1:w.ownsRow 0 e 6 (.slice a n c) n (rs.flatMap Rec.cells):=by rw[←hn] at h ⊢;exact h
 have h2:=ownsRow_take h1 hk
 unfold OwnR;rw[List.length_take,Nat.min_eq_left (by omega),recs_take]
 exact h2
theorem OwnL.cut {w:World}{a:Option Addr}{n c:Nat}{l:List Bool}(h:OwnL w (.slice a n c) l)(hn:l.length=n) {k:Nat}(hk:k≤n):OwnL w (.slice a k c) (l.take k):=by
 have h1:w.ownsRow 0 4 1 (.slice a n c) n (l.map Value.bool):=by rw[←hn] at h ⊢;exact h
 have h2:=ownsRow_take h1 hk
 rw[Nat.mul_one] at h2;unfold OwnL;rw[List.length_take,Nat.min_eq_left (by omega),List.map_take]
 exact h2
def CutQ (x p l:Nat) (most:Int) (va va' vg vg' vm vm' ve:Value) (W1:Wd) (w:World):Prop:=∃ v3 v4 v5,(v3=va∨v3=va')∧(v4=vg∨v4=vg')∧(v5=vm∨v5=vm')∧Box w x (W1.cells p l most v3 v4 v5 ve) 56
def CutF (x p l:Nat) (most:Int) (va va' vg vg' vm vm' ve:Value) (W1:Wd):List Value→World→Prop
 | [],w=>Box w x (W1.cells p l most va vg vm ve) 56
 | [_],w=>Box w x (W1.cells p l most va' vg vm ve) 56
 | [_,_],w=>Box w x (W1.cells p l most va' vg' vm ve) 56
 | _,w=>Box w x (W1.cells p l most va' vg' vm' ve) 56
section
variable {w0 w w':World} {x p l l2:Nat} {most:Int} {B S S':Nat→Prop} {sv:Value} {ss:List (Nat×Value)} {d d':Dk} {g:Lg} {va vg vm ve:Value} {W:Wd}
theorem LgS.diskTo (h:LgS B w p l S sv ss d g)(hd:DiskAt w' p S' d')(hS:∀ k,S' k→S k∨(w.heap.size≤k∧k<w'.heap.size))(hc:Chg S w w'):LgS B w' p l S' sv ss d' g∧Chg (Off B) w w':=by
 have hz:=hc.size
 have hds:=h.ds
 have hdn:DsS (BofA B l sv ss) w' p S' d':=⟨fun k hk=>Nat.lt_of_lt_of_le (hds.lo k hk) hz,hd,fun k hk=>by
  rcases hS k hk with h1 | h1
  ·exact⟨(hds.sl k h1).1,Nat.lt_of_lt_of_le (hds.sl k h1).2 hz⟩
  ·exact⟨fun hb=>by have:=hds.lo k hb;omega,h1.2⟩⟩
 exact⟨h.disk hdn (hc.weak fun k hk=>.inl (hds.sl k hk).1),hc.weak fun k hk=>.inl (h.sl k hk).1⟩
theorem WMem.anew (hl:LgS B w p l2 S sv ss d g)(hm:WMem w0.heap.size w x p l most va vg vm ve W)(h0:∀ k,k<w0.heap.size→B k)(hb:∀ k,WHas x va vg vm ve k→B k)(hc:Chg Nil w0 w)(hn:0<ss.length)(hw:(w.setCell ⟨x,1,none⟩ (.pointer (some ⟨l2,0,none⟩))).setCell ⟨x,9,none⟩ (.bool false)=w') :
  ∃ B',WS w0 w' x p l2 most B' S sv ss d g va vg vm ve { W with down:=false }:=by
 subst hw;have hsc:Chg (fun k=>k=x) w ((w.setCell ⟨x,1,none⟩ (.pointer (some ⟨l2,0,none⟩))).setCell ⟨x,9,none⟩ (.bool false)):=((Chg.refl (fun k=>k=x) w).setCell (.inl rfl) _).setCell (.inl rfl) _
 have hbx:Box ((w.setCell ⟨x,1,none⟩ (.pointer (some ⟨l2,0,none⟩))).setCell ⟨x,9,none⟩ (.bool false)) x (({ W with down:=false }:Wd).cells p l2 most va vg vm ve) 56:=(hm.c.set 1 _).set 9 _
 have hne:=hm.ne
 exact⟨_,hl.growC (hsc.weak fun k hk=>.inl (hb k (.inl hk))),⟨hbx,ownsRow_chg hm.a hsc (fun k hk e=>hne.1 (e ▸ hk)),ownsRow_chg hm.g hsc (fun k hk e=>hne.2.1 (e ▸ hk)),ownsRow_chg hm.m hsc (fun k hk e=>hne.2.2.1 (e ▸ hk)),ownsRow_chg hm.e hsc (fun k hk e=>hne.2.2.2 (e ▸ hk)),hm.new,hm.gm⟩,fun k hk=>.inl (h0 k hk),fun k hk=>.inl (hb k hk),hc.trans hsc (fun k hk=>.inr (hk ▸ hm.new x (.inl rfl))),hn⟩
theorem WS.cut {aa ga ma:Option Addr}{N ac gc mc e:Nat}(h:WS w0 w x p l most B S sv ss d g (.slice aa N ac) (.slice ga N gc) (.slice ma N mc) ve W)(he:e≤N)(ha:W.all.length=N)(hg:W.gone.length=N)(hm:W.may.length=N)(hc:Chg (fun k=>k=x) w w')(hb:Box w' x (W.cells p l most (.slice aa e ac) (.slice ga e gc) (.slice ma e mc) ve) 56) :
  ∃ B',WS w0 w' x p l most B' S sv ss d g (.slice aa e ac) (.slice ga e gc) (.slice ma e mc) ve (W.cutAt e):=by
 have hw:=h.wm
 have hne:=hw.ne
 have eb:∀ (a:Option Addr) (n c k:Nat),(Value.slice a n c).ownBlock=some k→∀ n',(Value.slice a n' c).ownBlock=some k:=by
  intro a n c k hk n';cases a with
  | none=>cases hk
  | some a=>exact hk
 refine⟨_,h.law (va':=.slice aa e ac) (vg':=.slice ga e gc) (vm':=.slice ma e mc) (ve':=ve) (W':=W.cutAt e) (hc.weak fun k hk=>.inl (.inl hk)) ⟨hb,(OwnR.cut hw.a ha he).chg hc (fun k hk e=>hne.1 (e ▸ eb _ _ _ _ hk _)),(OwnL.cut hw.g hg he).chg hc (fun k hk e=>hne.2.1 (e ▸ eb _ _ _ _ hk _)),(OwnL.cut hw.m hm he).chg hc (fun k hk e=>hne.2.2.1 (e ▸ eb _ _ _ _ hk _)),ownsRow_chg hw.e hc (fun k hk e=>hne.2.2.2 (e ▸ hk)),?_,fun k hk hk2=>hw.gm k (eb _ _ _ _ hk _) (eb _ _ _ _ hk2 _)⟩ ?_⟩
 ·rintro k (hk | hk | hk | hk | hk)
  ·exact hw.new k (.inl hk)
  ·exact hw.new k (.inr (.inl (eb _ _ _ _ hk _)))
  ·exact hw.new k (.inr (.inr (.inl (eb _ _ _ _ hk _))))
  ·exact hw.new k (.inr (.inr (.inr (.inl (eb _ _ _ _ hk _)))))
  ·exact hw.new k (.inr (.inr (.inr (.inr hk))))
 ·rintro k (hk | hk | hk | hk | hk)
  ·exact .inl (.inl hk)
  ·exact .inl (.inr (.inl (eb _ _ _ _ hk _)))
  ·exact .inl (.inr (.inr (.inl (eb _ _ _ _ hk _))))
  ·exact .inl (.inr (.inr (.inr (.inl (eb _ _ _ _ hk _)))))
  ·exact .inl (.inr (.inr (.inr (.inr hk))))
theorem WS.endsAnew {e:Nat}(h:WS w0 w x p l most B S sv ss d g va vg vm ve W)(hw:((w.alloc (.cells #[.int .i64 (e:Nat)] 3)).setCell ⟨x,6,none⟩ (.slice (some ⟨w.heap.size,0,none⟩) 1 1)).setCell ⟨x,7,none⟩ (.int .i64 (e:Nat))=w') :
  ∃ B',WS w0 w' x p l most B' S sv ss d g va vg vm (.slice (some ⟨w.heap.size,0,none⟩) 1 1) { W with ends:=[(e:Int)],safe:=(e:Nat) }:=by
 subst hw;have hm:=h.wm
 have hne:=hm.ne
 obtain⟨w1,hw1⟩:∃ w1,w.alloc (.cells #[.int .i64 (e:Nat)] 3)=w1:=⟨_,rfl⟩
 have hal:Chg Nil w w1:=by rw[←hw1];exact (Chg.refl Nil w).alloc _
 have ho:OwnZ w1 (.slice (some ⟨w.heap.size,0,none⟩) 1 1) [(e:Int)]:=by
  rw[←hw1];exact World.ownsRow_lit w #[.int .i64 (e:Nat)] 1 (Nat.zero_le _) (by unfold maxLen;omega) rfl
 have hxl:x<w.heap.size:=hm.lt x (.inl rfl)
 rw[hw1];have hsc:Chg (fun k=>k=x) w1 ((w1.setCell ⟨x,6,none⟩ (.slice (some ⟨w.heap.size,0,none⟩) 1 1)).setCell ⟨x,7,none⟩ (.int .i64 (e:Nat))):=((Chg.refl (fun k=>k=x) w1).setCell (.inl rfl) _).setCell (.inl rfl) _
 have hbx:Box ((w1.setCell ⟨x,6,none⟩ (.slice (some ⟨w.heap.size,0,none⟩) 1 1)).setCell ⟨x,7,none⟩ (.int .i64 (e:Nat))) x (({ W with ends:=[(e:Int)],safe:=(e:Nat) }:Wd).cells p l most va vg vm (.slice (some ⟨w.heap.size,0,none⟩) 1 1)) 56:=((hm.c.chg hal (fun h=>h)).set 6 _).set 7 _
 have hall:Chg (fun k=>k=x) w ((w1.setCell ⟨x,6,none⟩ (.slice (some ⟨w.heap.size,0,none⟩) 1 1)).setCell ⟨x,7,none⟩ (.int .i64 (e:Nat))):=(hal.weak (S':=fun k=>k=x) (fun _ h=>h.elim)).trans hsc (fun k hk=>.inl hk)
 refine⟨_,h.law (va':=va) (vg':=vg) (vm':=vm) (ve':=.slice (some ⟨w.heap.size,0,none⟩) 1 1) (W':={ W with ends:=[(e:Int)],safe:=(e:Nat) }) (hall.weak fun k hk=>.inl (.inl hk)) ⟨hbx,ownsRow_chg hm.a hall (fun k hk e=>hne.1 (e ▸ hk)),ownsRow_chg hm.g hall (fun k hk e=>hne.2.1 (e ▸ hk)),ownsRow_chg hm.m hall (fun k hk e=>hne.2.2.1 (e ▸ hk)),OwnZ.chg ho hsc (fun k hk e=>?_),?_,hm.gm⟩ ?_⟩
 ·have h1:w.heap.size=k:=Option.some.inj hk
  omega
 ·rintro k (hk | hk | hk | hk | hk)
  ·exact hm.new k (.inl hk)
  ·exact hm.new k (.inr (.inl hk))
  ·exact hm.new k (.inr (.inr (.inl hk)))
  ·exact hm.new k (.inr (.inr (.inr (.inl hk))))
  ·have h1:w.heap.size=k:=Option.some.inj hk
   have:=h.ch.size
   omega
 ·rintro k (hk | hk | hk | hk | hk)
  ·exact .inl (.inl hk)
  ·exact .inl (.inr (.inl hk))
  ·exact .inl (.inr (.inr (.inl hk)))
  ·exact .inl (.inr (.inr (.inr (.inl hk))))
  ·have h1:w.heap.size=k:=Option.some.inj hk
   exact .inr (by omega)
theorem WS.startAnew (h:WS w0 w x p l most B S sv ss d g va vg vm ve W) (n:Int)(hw:w.setCell ⟨x,8,none⟩ (.int .i64 n)=w'):∃ B',WS w0 w' x p l most B' S sv ss d g va vg vm ve { W with start:=n }:=by
 subst hw;have hm:=h.wm
 have hne:=hm.ne
 have hsc:Chg (fun k=>k=x) w (w.setCell ⟨x,8,none⟩ (.int .i64 n)):=(Chg.refl (fun k=>k=x) w).setCell (.inl rfl) _
 have hbx:Box (w.setCell ⟨x,8,none⟩ (.int .i64 n)) x (({ W with start:=n }:Wd).cells p l most va vg vm ve) 56:=hm.c.set 8 _
 exact⟨_,h.law (hsc.weak fun k hk=>.inl (.inl hk)) ⟨hbx,ownsRow_chg hm.a hsc (fun k hk e=>hne.1 (e ▸ hk)),ownsRow_chg hm.g hsc (fun k hk e=>hne.2.1 (e ▸ hk)),ownsRow_chg hm.m hsc (fun k hk e=>hne.2.2.1 (e ▸ hk)),ownsRow_chg hm.e hsc (fun k hk e=>hne.2.2.2 (e ▸ hk)),hm.new,hm.gm⟩ (fun k hk=>.inl hk)⟩
end
theorem WUp.failed {W:Wd}{d:Dk}{g:Lg}{ys:List SgB}{z:SgB}{m:Nat}(h:WUp W d g ys z m) {n:Int}(hn:-1≤n∧n≤9223372036854775807):WUp W { d with left:=n } g ys z m:=⟨h.c.failed hn,h.only,h.recs,h.dn⟩
theorem offUp_len:∀ {n m:Int}{l:List Rec},offUp n l→(∀ r∈l,r.off<m)→n≤m→(l.length:Int)≤m-n
 | n,m,[],_,_,h=>by simp;omega
 | n,m,a::l,h,h2,_=>by
  have h3:=h2 a (List.mem_cons_self ..)
  have h4:=offUp_len (n:=a.off+1) h.2 (fun r hr=>h2 r (List.mem_cons_of_mem _ hr)) (by omega)
  have h5:=h.1
  simp only[List.length_cons]
  omega
theorem any_at {l:List Int}{i:Nat}(h:i<l.length) (e:Int):(l.take (i+1)).any (fun n=>n==e)=((l.take i).any (fun n=>n==e)||(l[i]==e)):=by
 rw[List.take_succ_eq_append_getElem h,List.any_append]
 simp
def CrashAt (w0:World) (x p:Nat) (most:Int) (m:Nat) (e:Ending) (w':World):Prop:=e = .returned (.bool true)∧∃ (W:Wd) (l:Nat) (B S:Nat→Prop) (sv:Value) (ss:List (Nat×Value)) (d:Dk) (g:Lg) (va vg vm ve:Value) (ys:List SgB) (z:SgB) (b:Nat),
 WS w0 w' x p l most B S sv ss d g va vg vm ve W∧ss.length≤m+1∧WUp W d g ys z m∧g.start=(b:Nat)∧LooksOk W b (recsOf (allBts (ys++[z])))
theorem CrashAt.does {w0 w':World}{x p:Nat}{most:Int}{m:Nat}{e:Ending}(h:CrashAt w0 x p most m e w'):DoesAt w0 x p most m e w':=by
 obtain⟨he,W,l,B,S,sv,ss,d,g,va,vg,vm,ve,ys,z,b,h1,h2,h3,_⟩:=h
 exact⟨he,W,l,B,S,sv,ss,d,g,va,vg,vm,ve,h1,by omega,WPl.more (.inl ⟨ys,z,h3⟩)⟩
theorem LooksOk.again {W:Wd}{b:Nat}{T:List Rec}(h:LooksOk W b T)(hg:W.gone.length=W.all.length):LooksOk (W.seen (missL b W.all.length T)) b T:=by
 refine⟨h.up,h.lt,fun i hb hi=>?_,h.same⟩
 show (missing T i=false∧(mkL (missL b W.all.length T) W.gone).getD i false=false)∨(missing T i=true∧W.may.getD i false=true)
 have hi:i<W.all.length:=hi
 rcases h.at' i hb hi with ⟨h1,h2⟩ | h1
 ·left
  refine⟨h1,?_⟩
  rw[mkL_get _ _ i (by rw[hg];exact hi),h2,Bool.or_false]
  refine decide_eq_false fun hm=>?_
  have h3:=(List.mem_filter.1 hm).2
  rw[h1] at h3;cases h3
 ·exact .inr h1
theorem looks_last {w0 w:World}{x p l:Nat}{most:Int}{B S:Nat→Prop}{sv:Value}{ss:List (Nat×Value)}{d:Dk}{g:Lg}{va vg vm ve:Value}{W:Wd}{ys:List SgB}{z:SgB}{m b:Nat}(h:WS w0 w x p l most B S sv ss d g va vg vm ve W)(hss:ss.length≤m+1)(hu:WUp W d g ys z m)(hst:g.start=(b:Nat))(hL:LooksOk W b (recsOf (allBts (ys++[z]))))(hm:m≤63) :
  Calls Tryz.prog 25 #[.pointer (some ⟨x,0,none⟩)] w fun e w'=>e = .returned (.bool true)∧Chg Nil w0 w':=by
 have hmn:=hu.c.many
 have hbe:b≤W.all.length:=by
  have h1:=hu.c.up.ok.hi
  rw[hst,hu.c.stop] at h1;omega
 have htl:(recsOf (allBts (ys++[z]))).length≤4000:=by
  have h1:=offUp_len hL.up hL.lt (by omega)
  omega
 have htold:g.told (ys++[z])=recsOf (allBts (ys++[z])):=by
  unfold Lg.told recsFrom;rw[hst];exact List.filter_eq_self.2 fun r hr=>decide_eq_true (offUp_mem hL.up r hr)
 refine (looks_any h hu.c.up.ok (by rw[hu.c.dir];simp) (by omega) htold htl hst hbe hL (by omega) hu.c.gl hu.c.ml).mono ?_
 rintro e w' ⟨he,B',hs⟩
 exact⟨he,hs.ch⟩
end Go.Proofs.YtdjmifaidgbbaaaGreatDoor
