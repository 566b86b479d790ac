/-
  The law's steps, all. (Of the logs' seat.)
-/
import Derived.Test.YtdjmifaidgbbaaaGreatDoorT45
import Derived.Stop.LaidErr
import Derived.Test.YtdjmifaidgbbaaaGreatDoorRows
import Derived.Lay
import Derived.LaidMore
import Derived.Deep.Fields
import Derived.OpenShut
import Derived.SevenTiedAt
set_option linter.unusedVariables false
set_option linter.unusedSimpArgs false
set_option maxHeartbeats 0
set_option maxRecDepth 200000
namespace Go.Proofs.YtdjmifaidgbbaaaGreatDoor
open Go.RowKit Go.Maps
structure Sp where
 what:Int
 a:Int
 b:Int
 ra:Option Addr
 rs:List Rec
 rc:Nat
 fa:Option Addr
 fs:List UInt8
 fc:Nat
def Sp.cells (s:Sp):List Value:=[.int .i64 s.what,.int .i64 s.a,.int .i64 s.b,.slice s.ra s.rs.length s.rc,.slice s.fa s.fs.length s.fc]
structure Sp.Ok (w:World) (s:Sp):Prop where
 recs:RecsAt w s.ra s.rs
 rok:∀ r∈s.rs,Rec.Ok r
 fates:BytesAt w s.fa s.fs
 flen:s.fs.length≤9223372036854775807
def SpsAt (w:World) (xa:Option Addr) (xs:List Sp):Prop:=∀ i (h:i<xs.length),∃ b off,xa=some ⟨b,off,none⟩∧∀ j u,(xs[i].cells)[j]? = some u→w.cell? ⟨b,off+i*5+j,none⟩=some u
theorem RecsAt.inW {w:World}{a:Option Addr}{rs:List Rec}(h:RecsAt w a rs)(hne:rs≠[]):∀ y,a=some y→y.block<w.heap.size:=by
 intro y hy;obtain⟨b,off,h1,h2⟩:=h 0 (List.length_pos_iff.2 hne)
 rw[hy] at h1;obtain rfl:=Option.some.inj h1
 exact World.block_lt_of_cell? _ _ (h2 0 _ rfl)
section
variable {w0 w:World} {x p l:Nat} {most:Int} {B S:Nat→Prop} {sv:Value} {ss:List (Nat×Value)} {d:Dk} {g:Lg} {va vg vm ve:Value} {W:Wd} {m:Nat}
theorem does_crash (h:WS w0 w x p l most B S sv ss d g va vg vm ve W) (hp:WPl W d g m) (hm:m≤62) (hH:Handle w0) (hT:TabE w0) (hmost:100≤most∧most≤1048576) (a b:Int) (ra fa:Option Addr) (rn rc:Nat) (fates:List UInt8) (fc:Nat) (hfl:fates.length≤9223372036854775807) (hfb:BytesAt w0 fa fates) :
  Calls Tryz.prog 23 #[.pointer (some ⟨x,0,none⟩),.agg #[.int .i64 6,.int .i64 a,.int .i64 b,.slice ra rn rc,.slice fa fates.length fc]] w (DoesAt w0 x p most m):=by
 have HOP:Hid (∀ w',Chg Nil w w'→Calls Tryz.prog 24 #[.pointer (some ⟨x,0,none⟩),.agg #[.int .i64 6,.int .i64 a,.int .i64 b,.slice ra rn rc,.slice fa fates.length fc]] w' (CrashAt w0 x p most m)):=fun w' hw=>crashes_any (h.nil hw) hp hm hH hT hmost 6 a b _ fates fa fc hfl hfb
 generalize fates.length=fn at *;clear h hp hm hH hT hmost hfl hfb;have hal:=(Chg.refl Nil w).alloc (.cells #[.int .i64 6,.int .i64 a,.int .i64 b,.slice ra rn rc,.slice fa fn fc] 59)
 have hbx:Box (w.alloc (.cells #[.int .i64 6,.int .i64 a,.int .i64 b,.slice ra rn rc,.slice fa fn fc] 59)) w.heap.size [.int .i64 6,.int .i64 a,.int .i64 b,.slice ra rn rc,.slice fa fn fc] 59:=Box.new w _ _
 go_enter Tryz.func23,Tryz.ntmps23
 go_upto_region 1 with fail;obtain⟨b3,hb3⟩:∃ b3,w.heap.size=b3:=⟨_,rfl⟩
 generalize hw1:w.alloc (.cells #[.int .i64 6,.int .i64 a,.int .i64 b,.slice ra rn rc,.slice fa fn fc] 59)=w1 at *;rw[hb3] at hbx
 rw[hb3];have b0:=hbx.cell (j:=0) rfl
 have b1:=hbx.cell (j:=1) rfl
 have b2:=hbx.cell (j:=2) rfl
 have b4:=hbx.cell (j:=3) rfl
 have b5:=hbx.cell (j:=4) rfl
 have HAL:=Lib.hid hal
 clear hal hbx hb3 hw1;go_wp2_with fail;refine (HOP.out w1 HAL.out).mono ?_
 rintro e w3 hst
 have HST:=Lib.hid hst.does.2
 obtain rfl:=hst.1
 clear hst b0 b1 b2 b4 b5 HOP HAL;go_wp2_with fail;go_ret;exact⟨rfl,HST.out⟩
theorem does_any (h:WS w0 w x p l most B S sv ss d g va vg vm ve W)(hss:ss.length≤m+2)(hp:WPl W d g m)(hm:m≤62)(hH:Handle w0)(hT:TabE w0)(hmost:100≤most∧most≤1048576) (s:Sp)(hs:s.Ok w0)(hl:s.rs.length≤60) :
  Calls Tryz.prog 23 #[.pointer (some ⟨x,0,none⟩),.agg #[.int .i64 s.what,.int .i64 s.a,.int .i64 s.b,.slice s.ra s.rs.length s.rc,.slice s.fa s.fs.length s.fc]] w (DoesAt w0 x p most m):=by
 obtain⟨what,a,b,ra,rs,rc,fa,fs,fc⟩:=s
 obtain⟨h1,h2,h3,h4⟩:=hs
 simp only at h1 h2 h3 h4 hl ⊢
 by_cases e0:what=0
 ·subst e0;exact does_add h hss hp hm hH hT rs hl h2 ra rc (RecsAt.chg' h1 h.ch (fun _ _ _ h=>h)) (fun hne=>h1.inW hne) a b _
 by_cases e1:what=1
 ·subst e1;exact does_flush h hss hp hm hH a b _ _
 by_cases e2:what=2
 ·subst e2;exact does_forget h hss hp hm hH a b _ _
 by_cases e3:what=3
 ·subst e3;exact does_retain h hss hp hm hH a b _ _
 by_cases e4:what=4
 ·subst e4;exact does_compacts h hss hp hm hH a b _ _
 by_cases e5:what=5
 ·subst e5;exact does_fail h hss hp hm hH a b _ _
 by_cases e6:what=6
 ·subst e6;exact does_crash h hp hm hH hT hmost a b ra fa _ rc fs fc h4 h3
 exact does_else h hss hp a b _ _ what (by omega)
end
theorem recsAt_box {w:World}{g:Nat}{rs:List Rec}{t:TypeId}(h:Box w g (rs.flatMap Rec.cells) t):RecsAt w (some ⟨g,0,none⟩) rs:=by
 intro i hi;refine⟨g,0,rfl,fun j u hj=>?_⟩
 have:=h.cell (j:=i*6+j) (fm_get (f:=Rec.cells) (n:=6) (fun _=>rfl) rs i hi j _ hj)
 rwa [show 0+i*6+j=i*6+j by omega]
def logRs:List Rec:=[⟨0,0,false,⟨#[]⟩,false,⟨#[97]⟩⟩,⟨0,0,false,⟨#[]⟩,false,⟨#[98]⟩⟩]
theorem log_err:encErr 0 (0+(logRs.length:Nat)) (numbered 0 logRs)=0:=by decide +kernel
theorem logRs_ok:∀ r∈logRs,Rec.Ok r:=fun r hr=>by
 simp only[logRs,List.mem_cons,List.not_mem_nil,or_false] at hr
 rcases hr with rfl | rfl
 ·exact⟨by decide,by decide,Nat.zero_le _,show 1≤maxLen by unfold maxLen;omega⟩
 ·exact⟨by decide,by decide,Nat.zero_le _,show 1≤maxLen by unfold maxLen;omega⟩
theorem log_from:recsFrom 1 [⟨0,0+(logRs.length:Nat),numbered 0 logRs⟩]=[⟨1,0,false,⟨#[]⟩,false,⟨#[98]⟩⟩]:=by rfl
theorem newLg_stop (dir:List UInt8) (most:Int) (n:Nat):(newLg dir most n n).stop=n:=rfl
theorem logged_any {w:World} (hH:Handle w) (hT:Tabs w):Calls Tryz.prog 9 #[] w fun e w'=>e = .returned (.bool true)∧Chg Nil w w':=by
 have HNEW:=Lib.hid (new_any 10000 (by omega) w)
 have HH:=Lib.hid hH
 have HT:=Lib.hid hT
 clear hH hT;go_enter Tryz.func9,Tryz.ntmps9
 go_wp2_with fail;refine HNEW.out.mono ?_
 rintro e w1 ⟨p,mb,rfl,hp,hmb,hdm,hc1⟩
 have HOP:=Lib.hid (LgI.open (by omega) (DsS.start (by omega) hp hmb hdm hc1) hc1 HT.out 112 (by decide) 300 ⟨by omega,by omega⟩ 0 (by omega))
 clear hp hmb hdm hc1 HNEW;go_wp2_with fail;refine HOP.out.mono ?_
 rintro e w2 ⟨l,rfl,hlg,hc2⟩
 have HBX:=Lib.hid (recsAt_box (rs:=logRs) (Box.new w2 (logRs.flatMap Rec.cells) 37))
 have HAL:=Lib.hid ((Chg.refl Nil w2).alloc (.cells (logRs.flatMap Rec.cells).toArray 37))
 have HAD:Hid (Calls Tryz.prog 12 #[.pointer (some ⟨l,0,none⟩),.slice (some ⟨w2.heap.size,0,none⟩) logRs.length 2] (w2.alloc (.cells (logRs.flatMap Rec.cells).toArray 37)) fun e w'=>e = .returned (.tuple #[.int .i64 0,.nilIface])∧(∃ g' xs',LgI (fun k=>k<w.heap.size) w' p l 10000 1 g' xs'∧allBts xs'=[⟨0,0+(logRs.length:Nat),numbered 0 logRs⟩]∧g'.dir=[112]∧g'.start=0∧g'.stop=2)∧Chg Nil w w'):=by
  have hcw:=hc2.trans HAL.out (fun _ h=>h.elim)
  have h1:=(hlg.nil HAL.out).add (HH.out.chg hcw (fun h=>h)) HH.out.lt (HT.out.chg hcw) HT.out.lt (by decide) (by omega) (by omega) (some ⟨w2.heap.size,0,none⟩) logRs 2 (by decide) logRs_ok HBX.out
  rw[newLg_stop] at h1;refine h1.mono ?_
  rintro e w' ⟨he,_,h0,hc⟩
  have hle:encErr ((0:Nat):Int) (((0:Nat):Int)+(logRs.length:Nat)) (numbered ((0:Nat):Int) logRs)=0:=log_err
  rw[hle] at he;obtain⟨g',xs',hg,ha,hd,_,hs,hp⟩:=h0 hle
  exact⟨he,⟨g',xs',hg,by rw[ha];rfl,hd,hs,hp⟩,hcw.trans hc (fun k hk=>.inr (Nat.le_of_not_lt hk))⟩
 have hln:logRs.length=2:=rfl
 clear hlg hc2;go_wp2_with fail;refine HAD.out.mono ?_
 rintro e w3 ⟨rfl,⟨g',xs',hg,ha,hd,hs,hp⟩,hc3⟩
 have HG:=Lib.hid hg
 have HC3:=Lib.hid hc3
 have HP:=Lib.hid hp
 have HRD:Hid (Calls Tryz.prog 34 #[.pointer (some ⟨l,0,none⟩),.int .i64 1,.int .i64 99] w3 fun e w'=>∃ g2 c,e = .returned (.tuple #[.slice (some ⟨g2,0,none⟩) 1 c,.nilIface])∧w'.cell? ⟨g2,0,none⟩=some (.int .i64 1)∧w'.cell? ⟨g2,5,none⟩=some (.string ⟨#[98]⟩)∧Chg Nil w3 w'):=by
  refine (hg.read (by rw[hd];decide) (by omega) 1 99 (by omega) (by omega)).mono ?_
  rintro e w' ⟨v,out,he,hown,hnew,⟨rest,hr,hz⟩,hc⟩
  rw[ha,log_from] at hr;have hout:out=[⟨1,0,false,⟨#[]⟩,false,⟨#[98]⟩⟩]:=by
   rcases out with _ | ⟨x,_ | ⟨y,o⟩⟩
   ·rw[hz rfl] at hr;cases hr
   ·simp only[List.cons_append,List.cons.injEq] at hr
    rw[←hr.1]
   ·simp at hr
  subst hout;obtain⟨a,cap,hv,_,hcell⟩:=hown.valAt
  obtain⟨g2,rfl,hz2⟩:=hcell 0 (by simp)
  have z0:=hz2 0 _ rfl
  have z5:=hz2 5 _ rfl
  exact⟨g2,cap,by rw[he,hv];rfl,z0,z5,hc⟩
 clear hg ha hd hs hp hc3 HAD HAL HBX hln;go_wp2_with fail;refine HRD.out.mono ?_
 rintro e w4 ⟨g2,c,rfl,z0,z5,hc4⟩
 have HEN:=Lib.hid ((HG.out.nil hc4).endAt (by omega))
 have HC4:=Lib.hid (HC3.out.trans hc4 (fun _ h=>h.elim))
 rw[HP.out] at HEN;clear hc4 HRD;go_wp2_with fail;refine HEN.out.mono ?_
 rintro e w5 ⟨rfl,hc5⟩
 have z0:=hc5.cell z0 (fun h=>h)
 have z5:=hc5.cell z5 (fun h=>h)
 have HC5:=Lib.hid (HC4.out.trans hc5 (fun _ h=>h.elim))
 clear hc5;go_wp2_with fail;go_ret;exact⟨rfl,HC5.out⟩
def Wd.none:Wd:=⟨[],[],[],[],0,0,false⟩
theorem one_file {d:Dk}{nm:Nm}(h1:d.fs.length=1)(h2:(d.find nm).isSome=true):∀ y,(d.find y).isSome=true→y=nm:=by
 obtain⟨q,hq⟩:=List.length_eq_one_iff.1 h1
 have key:∀ y,(d.find y).isSome=true→y=q.1:=fun y hy=>by
  unfold Dk.find at hy;rw[hq] at hy;by_cases e:y=q.1
  ·exact e
  ·simp[e] at hy
 intro y hy;rw[key y hy,key nm h2]
theorem new_up {B:Nat→Prop}{w:World}{p l:Nat}{most:Int}{S:Nat→Prop}{sv:Value}{s:Nat}{d:Dk}(hN:NewAt B w p l [112] most 0 1048576 S sv s d) :
  WUp (Wd.none.note (newLg [112] most ((0:Nat):Int) 0)) d (newLg [112] most ((0:Nat):Int) 0) [] (⟨segName [112] 0,((0:Nat):Int),[],0⟩,[]) 0:=by
 obtain⟨sf,hf⟩:=(hN.ok.each _ (List.mem_singleton.2 rfl)).fl
 have hf:d.find (segName [112] 0)=some ⟨[],sf⟩:=hf
 have hO:OnlyF d ([]++[((⟨segName [112] 0,((0:Nat):Int),[],0⟩:Sg),([]:List Bt))]):=fun y hy=>⟨_,List.mem_singleton.2 rfl,one_file hN.files (by rw[hf];rfl) y hy⟩
 have hup:Up0 d (newLg [112] most ((0:Nat):Int) 0) [] (⟨segName [112] 0,((0:Nat):Int),[],0⟩,[]):=⟨hN.ok,rfl,⟨fun y hy=>(by cases hy),sf,0,hf,Nat.le_refl _,Nat.zero_le _,Int.le_refl _⟩⟩
 refine⟨⟨hup,hO.pre hup.ok,rfl,hN.room,fun i h=>absurd h (Nat.not_lt_zero _),rfl,rfl,rfl,⟨List.Sublist.refl _,fun r hr=>(by cases hr)⟩,fun i h=>absurd h (Nat.not_lt_zero _),fun m hm _=>?_,Int.le_refl _,Nat.zero_le _,Nat.zero_le _,Nat.zero_le _,Nat.le_refl _,fun r hr=>(by cases hr)⟩,hO,rfl,rfl⟩
 obtain rfl:m=0:=Nat.le_zero.1 hm
 exact List.mem_singleton.2 rfl
theorem WS.begin {w0 w w':World}{p l:Nat}{most:Int}{S:Nat→Prop}{sv:Value}{ss:List (Nat×Value)}{d:Dk}{g:Lg}(hl:LgS (fun k=>k<w0.heap.size) w p l S sv ss d g)(hc:Chg Nil w0 w)(hn:0<ss.length)
  (hw:w.alloc (.cells #[.pointer (some ⟨p,0,none⟩),.pointer (some ⟨l,0,none⟩),.int .i64 most,.slice none 0 0,.slice none 0 0,.slice none 0 0,.slice none 0 0,.int .i64 0,.int .i64 0,.bool false] 56)=w') :
  ∃ B,WS w0 w' w.heap.size p l most B S sv ss d g (.slice none 0 0) (.slice none 0 0) (.slice none 0 0) (.slice none 0 0) Wd.none:=by
 have hal:Chg Nil w w':=by rw[←hw];exact (Chg.refl Nil w).alloc _
 have hbx:Box w' w.heap.size (Wd.none.cells p l most (.slice none 0 0) (.slice none 0 0) (.slice none 0 0) (.slice none 0 0)) 56:=by
  rw[←hw];exact Box.new w [.pointer (some ⟨p,0,none⟩),.pointer (some ⟨l,0,none⟩),.int .i64 most,.slice none 0 0,.slice none 0 0,.slice none 0 0,.slice none 0 0,.int .i64 0,.int .i64 0,.bool false] _
 have hx:w.heap.size<w'.heap.size:=(Array.getElem?_eq_some_iff.1 hbx).1
 have hno:∀ k,WHas w.heap.size (.slice none 0 0) (.slice none 0 0) (.slice none 0 0) (.slice none 0 0) k→k=w.heap.size:=by
  rintro k (h | h | h | h | h)
  ·exact h
  all_goals cases h
 exact⟨_,hl.growC (hal.weak fun _ h=>h.elim),⟨hbx,OwnR.nil _ _,OwnL.nil _,OwnL.nil _,OwnZ.nil _,fun k hk=>by rw[hno k hk];exact hc.size,fun k hk=>(by cases hk)⟩,fun k hk=>.inl hk,fun k hk=>.inr (by rw[hno k hk];exact⟨Nat.le_refl _,hx⟩),hc.trans hal (fun _ h=>h.elim),hn⟩
theorem logCrashes_in (mo:Int) (xa:Option Addr) (xs:List Sp) (xc:Nat) (w:World) (hxl:xs.length≤60) (hok:∀ x∈xs,x.Ok w) (hxa:SpsAt w xa xs) (hH:Handle w) (hT:TabE w) :
  Calls Tryz.prog 6 #[.int .i64 mo,.slice xa xs.length xc] w fun e w'=>e = .returned (.bool true)∧Chg Nil w w':=by
 have h60:¬(60:Int)<(xs.length:Int):=by omega
 have HNEW:=Lib.hid (new_any 1048576 (by omega) w)
 have HLOG:Hid (∀ w',Chg Nil w w'→Calls Tryz.prog 9 #[] w' fun e w''=>e = .returned (.bool true)∧Chg Nil w' w''):=fun w' hc=>logged_any (hH.chg hc (fun h=>h)) (hT.tabs.chg hc)
 have HXA:=Lib.hid hxa
 have HOK:=Lib.hid hok
 have HT:=Lib.hid hT
 have HH:=Lib.hid hH
 have HXL:=Lib.hid hxl
 have HP3:=Lib.hid (pick_any mo 400)
 have HPL:=Lib.hid (pickN_lt (a:=mo) (n:=400) (by omega))
 obtain⟨pk,hpk⟩:∃ pk,pickN mo 400=pk:=⟨_,rfl⟩
 rw[hpk] at HP3 HPL
 have hpkl:pk<400:=HPL.out
 clear hok hxa hH hT hxl hpk;go_enter Tryz.func6,Tryz.ntmps6
 go_wp2_with fail;have HP1:=Lib.hid (HP3.out w (by omega) (by omega))
 refine HP1.out.mono ?_
 rintro e w0 ⟨rfl,hw0⟩
 obtain rfl:=hw0
 clear HP1;go_wp2_with fail;refine HNEW.out.mono ?_
 rintro e w1 ⟨p,mb,rfl,hp,hmb,hdm,hc1⟩
 have HDS:=Lib.hid (DsS.start (by omega) hp hmb hdm hc1)
 have HC1:=Lib.hid hc1
 have HLG1:=Lib.hid (HLOG.out w1 hc1)
 clear hp hmb hdm hc1 HNEW h60;go_wp2_with fail;refine HLG1.out.mono ?_
 rintro e w2 ⟨rfl,hc2⟩
 have HDS2:=Lib.hid (HDS.out.nil hc2)
 have HC2:=Lib.hid (HC1.out.trans hc2 (fun _ h=>h.elim))
 clear hc2 HLG1 HLOG HDS;have HOP:=Lib.hid (lopen_new HDS2.out (by omega) (HT.out.tabs.chg HC2.out) HT.out.tabs.lt ⟨#[112]⟩ (by show (1:Nat)≤100;omega) (100+(pk:Int)) ⟨by omega,by omega⟩ 0 (by omega) (fun k hk=>(seg_ok k hk 112 (by decide)).1))
 go_wp2_with fail;refine HOP.out.mono ?_
 rintro e w4 ⟨l,S',sv,s,d',rfl,hN,_,hc4⟩
 have HN:=Lib.hid hN
 have HC4:Hid (Chg Nil w w4):=HC2.out.trans hc4 (fun k hk=>.inr (Nat.le_of_not_lt hk))
 clear hN hc4 HOP HDS2;go_upto_region 11 with fail;obtain⟨B,hs5⟩:=WS.begin (most:=100+(pk:Int)) HN.out.lg HC4.out (by simp) rfl
 obtain⟨x,hx⟩:∃ x,w4.heap.size=x:=⟨_,rfl⟩
 rw[hx] at hs5;rw[hx];generalize w4.alloc (.cells #[.pointer (some ⟨p,0,none⟩),.pointer (some ⟨l,0,none⟩),.int .i64 (100+(pk:Int)),.slice none 0 0,.slice none 0 0,.slice none 0 0,.slice none 0 0,.int .i64 0,.int .i64 0,.bool false] 56)=w5 at *
 have HUP:=Lib.hid (new_up HN.out)
 have HNT:=Lib.hid (notes_any hs5 (HUP.out.needs' hs5.lg (hs5.hand HH.out).1 (hs5.hand HH.out).2 (by omega)) (Nat.zero_le _))
 clear hs5 hx;go_wp2_with fail;refine HNT.out.mono ?_
 rintro e w6 ⟨rfl,B6,ve6,hs6⟩
 have HST:Hid (WSt w w6 x p (100+(pk:Int)) (Wd.none.note (newLg [112] (100+(pk:Int)) ((0:Nat):Int) 0)) 0):=⟨l,B6,S',sv,_,d',_,_,_,_,_,hs6,Nat.le_of_ble_eq_true rfl,.inl ⟨_,_,HUP.out⟩⟩
 clear hs6 HNT HUP HN;go_wp2_with fail;go_loopw [9] (fun iv wr=>∃ (wq:World) (i:Nat) (W:Wd),wq=wr∧iv = .int .i64 (i:Nat)∧Hid (i≤xs.length)∧Hid (WSt w wr x p (100+(pk:Int)) W i)) (fun iv _=>xs.length-(RowKit.intOf iv).toNat)
 case atStart=>exact⟨_,0,_,rfl,rfl,Nat.zero_le _,HST.out⟩
 case round=>
  obtain⟨wr,i,W,rfl,rfl,HI,HW⟩:=hrel
  clear HST;by_cases hil:i<xs.length
  ·have hii:(i:Int)<(xs.length:Int):=by omega
   obtain⟨b,off,rfl,hcell⟩:=HXA.out i hil
   have HXO:=Lib.hid (HOK.out _ (List.getElem_mem hil))
   obtain⟨sp,hsp⟩:∃ sp,sp=xs[i]:=⟨_,rfl⟩
   rw[←hsp] at hcell HXO
   have HIL:=Lib.hid hil
   obtain⟨l7,B7,S7,sv7,ss7,d7,g7,va7,vg7,vm7,ve7,h1,h2,h3⟩:=HW.out
   have hmi:i≤62:=by have:=HXL.out;omega
   have hc7:Chg Nil w wr:=h1.ch
   have HDO:Hid (sp.rs.length≤60→Calls Tryz.prog 23 #[.pointer (some ⟨x,0,none⟩),.agg #[.int .i64 sp.what,.int .i64 sp.a,.int .i64 sp.b,.slice sp.ra sp.rs.length sp.rc,.slice sp.fa sp.fs.length sp.fc]] wr (DoesAt w x p (100+(pk:Int)) i)):=fun hl=>does_any h1 h2 h3 hmi HH.out HT.out ⟨by omega,by omega⟩ sp HXO.out hl
   have y0:=hc7.cell (hcell 0 _ rfl) (fun h=>h)
   have y1:=hc7.cell (hcell 1 _ rfl) (fun h=>h)
   have y2:=hc7.cell (hcell 2 _ rfl) (fun h=>h)
   have y3:=hc7.cell (hcell 3 _ rfl) (fun h=>h)
   have y4:=hc7.cell (hcell 4 _ rfl) (fun h=>h)
   rw[Nat.add_zero] at y0;have HC7:=Lib.hid hc7
   have hxl60:xs.length≤60:=HXL.out
   clear hsp hil h1 h2 h3 hmi hc7 hcell HXO;obtain⟨what,sa,sb,ra,rs,rc,fa,fs,fc⟩:=sp
   simp only at HDO
   generalize rs.length=rn at *;generalize fs.length=fn at *;by_cases hr60:(60:Int)<(rn:Int)
   ·go_wp2_with fail;go_ret;exact⟨rfl,HC7.out⟩
   have HDD:=Lib.hid (HDO.out (by omega))
   clear HDO;go_wp2_with fail;refine HDD.out.mono ?_
   rintro e w8 ⟨rfl,W',hst⟩
   have HST8:=Lib.hid hst
   clear hst y0 y1 y2 y3 y4 HDD;go_wp2_with fail;go_roundw
   case rel=>exact⟨_,i+1,W',rfl,by go_num,HIL.out,HST8.out⟩
   case measure=>exact meas_two HIL.out
  ·have hii:¬(i:Int)<(xs.length:Int):=by omega
   obtain⟨l7,B7,S7,sv7,ss7,d7,g7,va7,vg7,vm7,ve7,h1,h2,h3⟩:=HW.out
   have hmi:i≤62:=by have:=HXL.out;have:=HI.out;omega
   have HCR:Hid (Calls Tryz.prog 24 #[.pointer (some ⟨x,0,none⟩),.agg #[.int .i64 0,.int .i64 0,.int .i64 0,.slice none 0 0,.slice none 0 0]] wr (CrashAt w x p (100+(pk:Int)) i)):=crashes_any h1 h3 hmi HH.out HT.out ⟨by omega,by omega⟩ 0 0 0 (.slice none 0 0) [] none 0 (by simp) (fun i hi=>absurd hi (Nat.not_lt_zero _))
   have HMI:=Lib.hid hmi
   clear h1 h2 h3 hil hmi HW;go_wp2_with fail;refine HCR.out.mono ?_
   rintro e w8 hst
   obtain⟨he,W8,l8,B8,S8,sv8,ss8,d8,g8,va8,vg8,vm8,ve8,ys,z,b8,k1,k2,k3,k4,k5⟩:=hst
   subst he;have HLK:=Lib.hid (looks_last k1 k2 k3 k4 k5 (by have:=HMI.out;omega))
   clear k1 k2 k3 k4 k5 HCR hii;go_wp2_with fail;refine HLK.out.mono ?_
   rintro e w9 ⟨rfl,hc9⟩
   have HC9:=Lib.hid hc9
   clear hc9 HLK;go_wp2_with fail;go_ret;exact⟨rfl,HC9.out⟩
theorem logCrashes_any (mo:Int) (xa:Option Addr) (xs:List Sp) (xc:Nat) (w:World) (hH:Handle w) (hT:TabE w) (hok:∀ x∈xs,x.Ok w) (hxa:SpsAt w xa xs) :
  Calls Tryz.prog 6 #[.int .i64 mo,.slice xa xs.length xc] w fun e w'=>e = .returned (.bool true)∧Chg Nil w w':=by
 by_cases h2:(60:Int)<(xs.length:Int)
 ·clear hH hT hok hxa;go_enter Tryz.func6,Tryz.ntmps6
  go_wp2_with fail;go_ret;exact⟨rfl,Chg.refl _ _⟩
 exact logCrashes_in mo xa xs xc w (by omega) hok hxa hH hT
open Go.ChangeShapes Go.WideShapes
abbrev seatLaid:List (String×DataW Unit):=[("math/bits.deBruijn32tab",Rows.laid_math_bits_deBruijn32tab),("math/bits.deBruijn64tab",Rows.laid_math_bits_deBruijn64tab),("internal/strconv.uint64pow10",Rows.laid_internal_strconv_uint64pow10),("unicode/utf8.acceptRanges",Rows.laid_unicode_utf8_acceptRanges),("errors.errorType",Rows.laid_errors_errorType),("strconv.ErrRange",Rows.laid_strconv_ErrRange),("strconv.ErrSyntax",Rows.laid_strconv_ErrSyntax),("unicode/utf8.first",Rows.laid_unicode_utf8_first)]
theorem laid_et:Tryz.prog.globalNamed "errors.errorType" = some 0:=by kernel_rfl
theorem laid_rt:(Tryz.prog.cutTypes.find? (·.1 == "internal/reflectlite.rtype")).map (·.2)=some 236:=by kernel_rfl
theorem laid_size:∃ n,Tryz.prog.types.size=n∧((List.range n).filter fun t=>Tryz.prog.rowNamed t [101,114,114,111,114])=[25]:=⟨_,rfl,by kernel_rfl⟩
theorem handle_of_laid {W:World}(h:laidMetH Tryz.prog seatLaid W):Handle W:=by
 have h':laidMet Tryz.prog [("math/bits.deBruijn32tab",Rows.laid_math_bits_deBruijn32tab),("math/bits.deBruijn64tab",Rows.laid_math_bits_deBruijn64tab),("internal/strconv.uint64pow10",Rows.laid_internal_strconv_uint64pow10),("unicode/utf8.acceptRanges",Rows.laid_unicode_utf8_acceptRanges),("strconv.ErrRange",Rows.laid_strconv_ErrRange),("strconv.ErrSyntax",Rows.laid_strconv_ErrSyntax),("unicode/utf8.first",Rows.laid_unicode_utf8_first)] W∧handlesMet Tryz.prog [("errors.errorType",Rows.laid_errors_errorType)] W:=h
 obtain⟨name,u,ty,e1,e2,e3,e4,e5⟩:=h'.2 _ (List.mem_singleton.2 rfl)
 have en:name=[101,114,114,111,114]:=(Option.some.inj e1).symm
 subst en;obtain rfl:=Option.some.inj (laid_rt.symm.trans e2)
 obtain⟨n,hn,ho⟩:=laid_size
 have hm:ty∈(List.range n).filter fun t=>Tryz.prog.rowNamed t [101,114,114,111,114]:=List.mem_filter.2 ⟨List.mem_range.2 (by rw[←hn];exact e3),e4⟩
 rw[ho] at hm;obtain rfl:=List.mem_singleton.1 hm
 have hh:typeHandle Tryz.prog 25 = .pointer (some ⟨9,25,none⟩):=by kernel_rfl
 rw[hh] at e5;simpa [Handle] using World.var?_cell laid_et e5 0
abbrev seatPlain:List (String×DataW Unit):=[("math/bits.deBruijn32tab",Rows.laid_math_bits_deBruijn32tab),("math/bits.deBruijn64tab",Rows.laid_math_bits_deBruijn64tab),("internal/strconv.uint64pow10",Rows.laid_internal_strconv_uint64pow10),("unicode/utf8.acceptRanges",Rows.laid_unicode_utf8_acceptRanges),("strconv.ErrRange",Rows.laid_strconv_ErrRange),("strconv.ErrSyntax",Rows.laid_strconv_ErrSyntax),("unicode/utf8.first",Rows.laid_unicode_utf8_first)]
noncomputable def handWorld (os:Os):World:=
 let w0:=World.holding Tryz.prog os ⟨#[],#[],[]⟩
 { w0 with heap:=w0.heap.modify 0 fun
  | .cells _ t frozen=>.cells #[.iface 236 (.agg #[.pointer (some ⟨9,25,none⟩)])] t frozen
  | o=>o }
noncomputable def laidWorld (os:Os):World:=(handWorld os).layVars Tryz.prog seatPlain
theorem laidWorld_os (os:Os):(laidWorld os).os=os:=World.layVars_os _ _ _
theorem laidWorld_met (os:Os) (args:Array Value):laidMetH Tryz.prog seatLaid ((laidWorld os).forCall (fun _ _=>0) ⟨#[],args,[]⟩).memory:=by
 have h:laidMet Tryz.prog seatPlain (laidWorld os):=laidMet_layVars (w0:=handWorld os) ["math/bits.deBruijn32tab", "math/bits.deBruijn64tab", "internal/strconv.uint64pow10", "unicode/utf8.acceptRanges", "strconv.ErrRange", "strconv.ErrSyntax", "unicode/utf8.first"] [] rfl (by kernel_rfl) (by kernel_rfl) LaidIn.none
 exact laidMetH_of_parts (h.of_heap (by simp[World.memory,World.forCall,Input.heap])) (by kernel_rfl)
theorem tabs_of_laid {W:World}(h:laidMetH Tryz.prog seatLaid W):Tabs W:=by
 have h':laidMet Tryz.prog seatPlain W∧handlesMet Tryz.prog [("errors.errorType",Rows.laid_errors_errorType)] W:=h
 exact⟨Lib.tabIs_of_head (g:=3) (t:=289) (e:=208) (n:=20) (by kernel_rfl) (by kernel_rfl) Tryz.underlying289 Tryz.underlying208 (by kernel_rfl) (by kernel_rfl) h'.1.tail.tail⟩
open Go.Deep
theorem cellsR:Tryz.prog.cellsOf 37=6:=by kernel_rfl
theorem cellsI:Tryz.prog.cellsOf 3=1:=by kernel_rfl
theorem cellsB:Tryz.prog.cellsOf 4=1:=by kernel_rfl
theorem cellsS:Tryz.prog.cellsOf 9=1:=by kernel_rfl
theorem wf64 {n:Int}(h:(Lit.int .i64 n).wf=true):-9223372036854775808≤n∧n≤9223372036854775807:=by
 simp[Lit.wf,IntKind.min,IntKind.max,IntKind.signed,IntKind.bits] at h
 omega
section
variable {H:Type} {enc:TypeId×Value→H} {w:World} {base:Nat} {spare:Nat→Bool} {held:Bool}
theorem rec_of_cells {n:Nat} {cs:List Value} {y:DataW H×List MemPlace} (h:DataW.trod enc Tryz.prog w base spare held n 37 cs=some y):∃ r:Rec,r.Ok∧cs=r.cells:=by
 obtain⟨xs,m,_,_,hl,hx,hg⟩:=DataW.trod_struct Tryz.underlying37 h
 rw[cellsR] at hl;match cs,hl,xs,hx with
 | [c0,c1,c2,c3,c4,c5],_,[y0,y1,y2,y3,y4,y5],_=>
  have g0:DataW.trod enc Tryz.prog w base spare held m 3 [c0]=some y0:=by have:=hg 0 _ rfl;simpa [cellsI,cellsB,cellsS] using this
  have g1:DataW.trod enc Tryz.prog w base spare held m 3 [c1]=some y1:=by have:=hg 1 _ rfl;simpa [cellsI,cellsB,cellsS] using this
  have g2:DataW.trod enc Tryz.prog w base spare held m 4 [c2]=some y2:=by have:=hg 2 _ rfl;simpa [cellsI,cellsB,cellsS] using this
  have g3:DataW.trod enc Tryz.prog w base spare held m 9 [c3]=some y3:=by have:=hg 3 _ rfl;simpa [cellsI,cellsB,cellsS] using this
  have g4:DataW.trod enc Tryz.prog w base spare held m 4 [c4]=some y4:=by have:=hg 4 _ rfl;simpa [cellsI,cellsB,cellsS] using this
  have g5:DataW.trod enc Tryz.prog w base spare held m 9 [c5]=some y5:=by have:=hg 5 _ rfl;simpa [cellsI,cellsB,cellsS] using this
  obtain⟨o,e0,_,w0⟩:=DataW.trod_int Tryz.underlying3 g0
  obtain⟨t,e1,_,w1⟩:=DataW.trod_int Tryz.underlying3 g1
  obtain⟨k,e2,_⟩:=DataW.trod_bool Tryz.underlying4 g2
  obtain⟨key,e3,_,w3⟩:=DataW.trod_string Tryz.underlying9 g3
  obtain⟨g,e4,_⟩:=DataW.trod_bool Tryz.underlying4 g4
  obtain⟨v,e5,_,w5⟩:=DataW.trod_string Tryz.underlying9 g5
  simp at e0 e1 e2 e3 e4 e5
  subst e0 e1 e2 e3 e4 e5;exact⟨⟨o,t,k,key,g,v⟩,⟨wf64 w0,wf64 w1,w3,w5⟩,rfl⟩
theorem list_of {α:Type}{P:Nat→α→Prop}:∀ (n:Nat),(∀ i,i<n→∃ r,P i r)→∃ l:List α,l.length=n∧∀ i (hi:i<l.length),P i l[i]
 | 0,_=>⟨[],rfl,fun i hi=>by simp at hi⟩
 | n+1,h=>by
  obtain⟨l,hl,hp⟩:=list_of n fun i hi=>h i (by omega)
  obtain⟨r,hr⟩:=h n (by omega)
  refine⟨l++[r],by simp[hl],fun i hi=>?_⟩
  by_cases hin:i<l.length
  ·rw[List.getElem_append_left hin];exact hp i hin
  ·have:i=l.length:=by simp at hi;omega
   subst this;rw[List.getElem_concat_length (by rfl)]
   rw[hl];exact hr
theorem recs_open {fuel:Nat}{a:Option Addr}{len cap:Nat}{x:DataW H×List MemPlace}(h:DataW.trod enc Tryz.prog w base spare held fuel 33 [.slice a len cap]=some x) :
  ∃ rs:List Rec,rs.length=len∧len≤maxLen∧(∀ r∈rs,r.Ok)∧RecsAt w a rs:=by
 rcases open_slice Tryz.underlying33 h with ⟨hcs,_⟩ | ⟨a',len',cap',m,n,D,Pl,hcs,_,hl,hm,hmm,_,hi⟩
 ·simp at hcs
  obtain⟨rfl,rfl,rfl⟩:=hcs
  exact⟨[],rfl,Nat.zero_le _,by simp,fun i hi=>by simp at hi⟩
 ·simp at hcs
  obtain⟨rfl,rfl,rfl⟩:=hcs
  have hlm:len≤m:=by rw[hmm];split<;>omega
  have each:∀ i,i<len→∃ r:Rec,r.Ok∧∀ j u,r.cells[j]? = some u→w.cell? (a'.add (i*6+j))=some u:=by
   intro i hil;obtain⟨cs',hc,ht⟩:=hi i (by omega)
   rw[cellsR] at hc;obtain⟨r,hok,rfl⟩:=rec_of_cells ht
   obtain⟨_,hcl,hat⟩:=World.cells?_some hc
   refine⟨r,hok,fun j u hj=>?_⟩
   have hj6:j<6:=by
    have:=(List.getElem?_eq_some_iff.1 hj).1
    simpa [Rec.cells] using this
   rw[←add_add,hat j hj6,hj]
  obtain⟨rs,hrl,hp⟩:=list_of len each
  refine⟨rs,hrl,by omega,fun r hr=>?_,fun i hir=>?_⟩
  ·obtain⟨i,hir,rfl⟩:=List.getElem_of_mem hr
   exact (hp i hir).1
  ·have h0:=(hp 0 (by omega)).2 0 (.int .i64 (rs[0]'(by omega)).off) rfl
   obtain⟨b,off,spot⟩:=a'
   have hspot:spot=none:=by
    simpa [Addr.add] using World.cell?_spot h0
   subst hspot;refine⟨b,off,rfl,fun j u hj=>?_⟩
   have:=(hp i hir).2 j u hj
   have e1:(⟨b,off,none⟩:Addr).add (i*6+j)=⟨b,off+(i*6+j),none⟩:=by unfold Addr.add;split<;>simp_all
   rw[e1] at this;rw[Nat.add_assoc];exact this
end
theorem cellsRs:Tryz.prog.cellsOf 33=1:=by kernel_rfl
section
variable {H:Type} {enc:TypeId×Value→H} {w:World} {base:Nat} {spare:Nat→Bool} {held:Bool}
theorem slice_form {n:Nat}{c:Value}{y:DataW H×List MemPlace}(h:DataW.trod enc Tryz.prog w base spare held n 33 [c]=some y):∃ a l k,c = .slice a l k:=by
 rcases Go.Deep.open_slice Tryz.underlying33 h with ⟨hcs,_⟩ | ⟨a',len',cap',_,_,_,_,hcs,_⟩
 ·simp at hcs;exact⟨_,_,_,hcs⟩
 ·simp at hcs;exact⟨_,_,_,hcs⟩
end
theorem cellsU8:Tryz.prog.cellsOf 5=1:=by kernel_rfl
theorem bytes_open {H:Type}{enc:TypeId×Value→H}{w:World}{base:Nat}{spare:Nat→Bool}{held:Bool}{fuel:Nat}{a:Option Addr}{len cap:Nat}{x:DataW H×List MemPlace}(h:DataW.trod enc Tryz.prog w base spare held fuel 57 [.slice a len cap]=some x) :
  ∃ l:List UInt8,l.length=len∧len≤cap∧cap≤maxLen∧BytesAt w a l:=by
 rcases open_ints Tryz.underlying57 Tryz.underlying5 cellsU8 h with ⟨hcs,_⟩ | ⟨x,l,c,zs,hcs,_,hl,hm,hz,_,hcell,hwz⟩
 ·simp at hcs
  obtain⟨rfl,rfl,rfl⟩:=hcs
  exact⟨[],rfl,Nat.zero_le _,Nat.zero_le _,fun i hi=>absurd hi (Nat.not_lt_zero _)⟩
 ·simp at hcs
  obtain⟨rfl,rfl,rfl⟩:=hcs
  have hlz:len≤zs.length:=by rw[hz];split<;>omega
  exact⟨(bytesOf zs).take len,by rw[List.length_take,bytesOf_length];omega,hl,hm,bytesAt_of_ints hlz hcell hwz⟩
theorem cellsSp:Tryz.prog.cellsOf 59=5:=by kernel_rfl
theorem cellsIn:Tryz.prog.cellsOf 3=1:=by kernel_rfl
theorem cellsBy:Tryz.prog.cellsOf 57=1:=by kernel_rfl
section
variable {H:Type} {enc:TypeId×Value→H} {w:World} {base:Nat} {spare:Nat→Bool} {held:Bool}
theorem byte_form {n:Nat}{c:Value}{y:DataW H×List MemPlace}(h:DataW.trod enc Tryz.prog w base spare held n 57 [c]=some y):∃ a l k,c = .slice a l k:=by
 rcases Go.Deep.open_slice Tryz.underlying57 h with ⟨hcs,_⟩ | ⟨a',len',cap',_,_,_,_,hcs,_⟩
 ·simp at hcs;exact⟨_,_,_,hcs⟩
 ·simp at hcs;exact⟨_,_,_,hcs⟩
theorem sp_of_cells {n:Nat} {cs:List Value} {y:DataW H×List MemPlace} (h:DataW.trod enc Tryz.prog w base spare held n 59 cs=some y):∃ r:Sp,r.Ok w∧cs=r.cells:=by
 obtain⟨xs,m,_,_,hl,hx,hg⟩:=DataW.trod_struct Tryz.underlying59 h
 rw[cellsSp] at hl;match cs,hl,xs,hx with
 | [c0,c1,c2,c3,c4],_,[y0,y1,y2,y3,y4],_=>
  have g0:DataW.trod enc Tryz.prog w base spare held m 3 [c0]=some y0:=by have:=hg 0 _ rfl;simpa [cellsIn,cellsRs,cellsBy] using this
  have g1:DataW.trod enc Tryz.prog w base spare held m 3 [c1]=some y1:=by have:=hg 1 _ rfl;simpa [cellsIn,cellsRs,cellsBy] using this
  have g2:DataW.trod enc Tryz.prog w base spare held m 3 [c2]=some y2:=by have:=hg 2 _ rfl;simpa [cellsIn,cellsRs,cellsBy] using this
  have g3:DataW.trod enc Tryz.prog w base spare held m 33 [c3]=some y3:=by have:=hg 3 _ rfl;simpa [cellsIn,cellsRs,cellsBy] using this
  have g4:DataW.trod enc Tryz.prog w base spare held m 57 [c4]=some y4:=by have:=hg 4 _ rfl;simpa [cellsIn,cellsRs,cellsBy] using this
  obtain⟨x0,e0,_,_⟩:=DataW.trod_int Tryz.underlying3 g0
  obtain⟨x1,e1,_,_⟩:=DataW.trod_int Tryz.underlying3 g1
  obtain⟨x2,e2,_,_⟩:=DataW.trod_int Tryz.underlying3 g2
  obtain⟨ra,rn,rc,rfl⟩:=slice_form g3
  obtain⟨rs,rfl,hm,hok,hat⟩:=recs_open g3
  obtain⟨fa,fn,fc,rfl⟩:=byte_form g4
  obtain⟨lb,rfl,hlc,hcm,hby⟩:=bytes_open g4
  simp at e0 e1 e2
  subst e0 e1 e2;exact⟨⟨x0,x1,x2,ra,rs,rc,fa,lb,fc⟩,⟨hat,hok,hby,Nat.le_trans hlc hcm⟩,rfl⟩
theorem sps_open {fuel:Nat}{a:Option Addr}{len cap:Nat}{x:DataW H×List MemPlace}(h:DataW.trod enc Tryz.prog w base spare held fuel 52 [.slice a len cap]=some x) :
  ∃ rs:List Sp,rs.length=len∧len≤maxLen∧(∀ r∈rs,r.Ok w)∧SpsAt w a rs:=by
 rcases open_slice Tryz.underlying52 h with ⟨hcs,_⟩ | ⟨a',len',cap',m,n,D,Pl,hcs,_,hl,hm,hmm,_,hi⟩
 ·simp at hcs
  obtain⟨rfl,rfl,rfl⟩:=hcs
  exact⟨[],rfl,Nat.zero_le _,by simp,fun i hi=>by simp at hi⟩
 ·simp at hcs
  obtain⟨rfl,rfl,rfl⟩:=hcs
  have hlm:len≤m:=by rw[hmm];split<;>omega
  have each:∀ i,i<len→∃ r:Sp,r.Ok w∧∀ j u,r.cells[j]? = some u→w.cell? (a'.add (i*5+j))=some u:=by
   intro i hil;obtain⟨cs',hc,ht⟩:=hi i (by omega)
   rw[cellsSp] at hc;obtain⟨r,hok,rfl⟩:=sp_of_cells ht
   obtain⟨_,hcl,hat⟩:=World.cells?_some hc
   refine⟨r,hok,fun j u hj=>?_⟩
   have hj6:j<5:=by
    have:=(List.getElem?_eq_some_iff.1 hj).1
    simpa [Sp.cells] using this
   rw[←add_add,hat j hj6,hj]
  obtain⟨rs,hrl,hp⟩:=list_of len each
  refine⟨rs,hrl,by omega,fun r hr=>?_,fun i hir=>?_⟩
  ·obtain⟨i,hir,rfl⟩:=List.getElem_of_mem hr
   exact (hp i hir).1
  ·have h0:=(hp 0 (by omega)).2 0 (.int .i64 (rs[0]'(by omega)).what) rfl
   obtain⟨b,off,spot⟩:=a'
   have hspot:spot=none:=by
    simpa [Addr.add] using World.cell?_spot h0
   subst hspot;refine⟨b,off,rfl,fun j u hj=>?_⟩
   have:=(hp i hir).2 j u hj
   have e1:(⟨b,off,none⟩:Addr).add (i*5+j)=⟨b,off+(i*5+j),none⟩:=by unfold Addr.add;split<;>simp_all
   rw[e1] at this;rw[Nat.add_assoc];exact this
end
open Go.ChangeAt
theorem starE : "*" ++ "errors.errorString" = "*errors.errorString":=by decide
theorem rowErr (u:TypeId)(h:Tryz.prog.typeName? 3 u=some "*errors.errorString"):u=275:=
 typeName_ptr_named (nm:= "errors.errorString") (by rw[starE];kernel_rfl) (by kernel_rfl) (by decide) u (by rw[starE];exact h)
theorem tabE_of_laid {W:World}(h:laidMetH Tryz.prog seatLaid W):TabE W:=by
 have h':laidMet Tryz.prog seatPlain W∧handlesMet Tryz.prog [("errors.errorType",Rows.laid_errors_errorType)] W:=h
 have h2:=h'.1.tail.tail
 refine⟨tabs_of_laid h,?_,?_⟩
 ·obtain⟨a,s,hv,_⟩:=laid_sentinel (g:=1) (tp:=275) (ti:=25) (te:=277) (ts:=9) h2.tail.tail.tail (by kernel_rfl) (by kernel_rfl) Tryz.underlying25 rowErr Tryz.underlying275 Tryz.underlying277 rfl rfl Tryz.underlying9 (by kernel_rfl) (by kernel_rfl)
  exact⟨_,_,hv⟩
 ·obtain⟨a,s,hv,_⟩:=laid_sentinel (g:=2) (tp:=275) (ti:=25) (te:=277) (ts:=9) h2.tail.tail (by kernel_rfl) (by kernel_rfl) Tryz.underlying25 rowErr Tryz.underlying275 Tryz.underlying277 rfl rfl Tryz.underlying9 (by kernel_rfl) (by kernel_rfl)
  exact⟨_,_,hv⟩
end Go.Proofs.YtdjmifaidgbbaaaGreatDoor
