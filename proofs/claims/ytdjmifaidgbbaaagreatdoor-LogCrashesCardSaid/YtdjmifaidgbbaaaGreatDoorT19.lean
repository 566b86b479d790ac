/-
  The search among a segment's places.
-/
import Derived.Test.YtdjmifaidgbbaaaGreatDoorT18
set_option linter.unusedVariables false
set_option linter.unusedSimpArgs false
set_option maxHeartbeats 0
set_option maxRecDepth 200000
namespace Go.Proofs.YtdjmifaidgbbaaaGreatDoor
open Go.RowKit
theorem cmp_any (q:Pl) (n:Int) (w:World) :
  Calls Tryz.prog 105 #[.agg #[.int .i64 (q.at':Nat),.int .i64 (q.size:Nat),.int .i64 q.base,.int .i64 q.en,.int .i64 q.time],.int .i64 n] w fun e w'=>e = .returned (.int .i64 (if q.en≤n then -1 else 1))∧Chg Nil w w':=by
 obtain⟨qa,qs,qb,qe,qt⟩:=q
 have HAL:=Lib.hid ((Chg.refl Nil w).alloc (.cells #[.int .i64 (qa:Nat),.int .i64 (qs:Nat),.int .i64 qb,.int .i64 qe,.int .i64 qt] 157))
 have hbx:Box (w.alloc (.cells #[.int .i64 (qa:Nat),.int .i64 (qs:Nat),.int .i64 qb,.int .i64 qe,.int .i64 qt] 157)) w.heap.size [.int .i64 (qa:Nat),.int .i64 (qs:Nat),.int .i64 qb,.int .i64 qe,.int .i64 qt] 157:=Box.new _ _ _
 have y3:=hbx.cell (j:=3) rfl
 clear hbx;by_cases h:qe≤n
 ·have he:(if qe≤n then (-1:Int) else 1) = -1:=if_pos h
  have HE:=Lib.hid he
  clear he;go_enter Tryz.func105,Tryz.ntmps105
  go_wp2_with fail;go_ret;exact⟨rfl,HAL.out⟩
 ·have he:(if qe≤n then (-1:Int) else 1)=1:=if_neg h
  have HE:=Lib.hid he
  clear he;go_enter Tryz.func105,Tryz.ntmps105
  go_wp2_with fail;go_ret;exact⟨rfl,HAL.out⟩
def SearchAt (l:List Pl) (n:Int) (w:World) (e:Ending) (w':World):Prop:=
 ∃ (k:Nat) (b:Value),e = .returned (.tuple #[.int .i64 k,b])∧k≤l.length∧(∀ i (h:i<l.length),i<k→l[i].en≤n)∧(∀ h:k<l.length,n<l[k].en)∧Chg Nil w w'
theorem search_any {w:World} {a:Option Addr} {c:Nat} (l:List Pl) (hn:l.length≤1000000) (hcell:∀ i (h:i<l.length),∃ g,a=some ⟨g,0,none⟩∧∀ j u,(l[i].cells)[j]? = some u→w.cell? ⟨g,i*5+j,none⟩=some u)
  (hmono:∀ i j (h:j<l.length) (hij:i≤j),(l[i]'(Nat.lt_of_le_of_lt hij h)).en≤l[j].en) (n:Int) :
  Calls Tryz.prog 104 #[.slice a l.length c,.int .i64 n,.func (.func 105) #[] #[]] w (SearchAt l n w):=by
 have HCELL:=Lib.hid hcell
 have HM:=Lib.hid hmono
 clear hcell hmono;go_enter Tryz.func104,Tryz.ntmps104
 go_wp2_with fail;go_loopw [9,10] (fun iv jv wr=>∃ (wq:World) (i j:Nat),wq=wr∧i≤j∧j≤l.length∧iv = .int .i64 i∧jv = .int .i64 j∧Hid (∀ t (h:t<l.length),t<i→l[t].en≤n)∧Hid (∀ t (h:t<l.length),j≤t→n<l[t].en)∧Chg Nil w wr) (fun iv jv _=>(RowKit.intOf jv).toNat-(RowKit.intOf iv).toNat)
 case atStart=>exact⟨_,0,l.length,rfl,by omega,by omega,rfl,rfl,fun t h ht=>by omega,fun t h ht=>by omega,Chg.refl _ _⟩
 case round=>
  obtain⟨wr,i,j,rfl,hij,hjl,rfl,rfl,hlo,hhi,hc⟩:=hrel
  have HLO:=hlo
  have HHI:=hhi
  have HC:=Lib.hid hc
  clear hlo hhi hc;by_cases hlt:i<j
  ·obtain⟨m,hm⟩:∃ m,(i+j) / 2=m:=⟨_,rfl⟩
   have hm1:i≤m:=by omega
   have hm2:m<j:=by omega
   have hml:m<l.length:=by omega
   obtain⟨b,rfl,hz⟩:=HCELL.out m hml
   obtain⟨q,hq⟩:∃ q,q=l[m]:=⟨_,rfl⟩
   rw[←hq] at hz;have HQ:=Lib.hid hq
   clear hq;have HCM:=Lib.hid (fun (w':World)=>cmp_any q n w')
   obtain⟨qa,qs,qb,qe,qt⟩:=q
   have z0:=HC.out.cell (hz 0 _ rfl) (fun h=>h)
   have z1:=HC.out.cell (hz 1 _ rfl) (fun h=>h)
   have z2:=HC.out.cell (hz 2 _ rfl) (fun h=>h)
   have z3:=HC.out.cell (hz 3 _ rfl) (fun h=>h)
   have z4:=HC.out.cell (hz 4 _ rfl) (fun h=>h)
   rw[Nat.add_zero] at z0;clear hz;have hmi:((i:Int)+(j:Int)) / 2=(m:Int):=by omega
   have hw64:wrap64 ((i:Int)+(j:Int))=(i:Int)+(j:Int):=by unfold wrap64;omega
   by_cases hle:qe≤n
   ·have HL:=Lib.hid hle
    clear hle;go_wp2_with fail;refine (HCM.out _).mono ?_
    rintro e w7 ⟨rfl,hc7⟩
    have he:(if qe≤n then (-1:Int) else 1) = -1:=if_pos HL.out
    rw[he];have HC7:=Lib.hid (HC.out.trans hc7 (fun _ h=>h.elim))
    clear he hc7 z0 z1 z2 z3 z4;go_wp2_with fail;go_roundw
    case rel=>
     refine⟨_,m+1,j,rfl,by omega,hjl,by go_num,rfl,fun t h ht=>?_,HHI,HC7.out⟩
     have h1:=HM.out t m hml (by omega)
     have h2:l[m].en≤n:=by rw[←HQ.out];exact HL.out
     omega
    case measure=>simp[RowKit.intOf];omega
   ·have HL:=Lib.hid hle
    clear hle;go_wp2_with fail;refine (HCM.out _).mono ?_
    rintro e w7 ⟨rfl,hc7⟩
    have he:(if qe≤n then (-1:Int) else 1)=1:=if_neg (Int.not_le.2 HL.out)
    rw[he];have HC7:=Lib.hid (HC.out.trans hc7 (fun _ h=>h.elim))
    clear he hc7 z0 z1 z2 z3 z4;go_wp2_with fail;go_roundw
    case rel=>
     refine⟨_,i,m,rfl,by omega,by omega,rfl,by go_num,HLO,fun t h ht=>?_,HC7.out⟩
     have h1:=HM.out m t h (by omega)
     have h2:n<l[m].en:=by rw[←HQ.out];exact HL.out
     omega
    case measure=>simp[RowKit.intOf];omega
  ·obtain rfl:i=j:=by omega
   have hii:¬((i:Int)<(i:Int)):=by omega
   clear hlt;by_cases hil:i<l.length
   ·obtain⟨b,rfl,hz⟩:=HCELL.out i hil
    obtain⟨q,hq⟩:∃ q,q=l[i]:=⟨_,rfl⟩
    rw[←hq] at hz;have HCM:=Lib.hid (fun (w':World)=>cmp_any q n w')
    obtain⟨qa,qs,qb,qe,qt⟩:=q
    have z0:=HC.out.cell (hz 0 _ rfl) (fun h=>h)
    have z1:=HC.out.cell (hz 1 _ rfl) (fun h=>h)
    have z2:=HC.out.cell (hz 2 _ rfl) (fun h=>h)
    have z3:=HC.out.cell (hz 3 _ rfl) (fun h=>h)
    have z4:=HC.out.cell (hz 4 _ rfl) (fun h=>h)
    rw[Nat.add_zero] at z0;clear hz hq;have hil':(i:Int)<(l.length:Int):=by omega
    go_wp2_with fail;refine (HCM.out _).mono ?_
    rintro e w7 ⟨rfl,hc7⟩
    have HC7:=Lib.hid (HC.out.trans hc7 (fun _ h=>h.elim))
    clear hc7 z0 z1 z2 z3 z4;obtain⟨x,hx⟩:∃ x,(if qe≤n then (-1:Int) else 1)=x:=⟨_,rfl⟩
    have hx0:(x==0)=false:=by
     rw[←hx];split<;>rfl
    have e1:(if (Pl.mk qa qs qb qe qt).en≤n then (-1:Int) else 1)=x:=hx
    rw[e1];clear e1 hx;go_wp2_with fail;go_ret2;unfold SearchAt;exact⟨i,_,rfl,by omega,HLO,fun h=>HHI i h (Nat.le_refl _),HC7.out⟩
   ·have hil':¬(i:Int)<(l.length:Int):=by omega
    go_wp2_with fail;go_ret2;unfold SearchAt;exact⟨i,_,rfl,by omega,HLO,fun h=>absurd h hil,HC.out⟩
open Go.Maps
structure Bm where
 b:Bt
 ra:Option Addr
 rc:Nat
def Bm.c3 (m:Bm):List Value:=[.int .i64 m.b.base,.int .i64 m.b.en,.slice m.ra m.b.rs.length m.rc]
theorem c3_one (a b:Int) (ra:Option Addr) (n c:Nat):∀ u∈([.int .i64 a,.int .i64 b,.slice ra n c]:List Value),u.oneCell'=true:=by
 intro u hu;simp only[List.mem_cons,List.not_mem_nil,or_false] at hu
 rcases hu with rfl | rfl | rfl<;>rfl
theorem batT:SliceT Tryz.prog 117 112 3 40:=
 ⟨Tryz.underlying117,by
  have h:(Tryz.prog.info? 112).map (fun i=>(i.zero,i.size,i.bytes))=some (some (.agg #[.int .i64 0,.int .i64 0,.slice none 0 0]),3,40):=by kernel_rfl
  obtain⟨i,hi,hz,h1,h2⟩:=info_parts h
  exact⟨i,_,hi,hz,rfl,h1,h2⟩⟩
def OwnM (w:World) (v:Value) (l:List Bm):Prop:=w.ownsRow 0 112 3 v l.length (l.flatMap Bm.c3)
theorem OwnM.nil (w:World):OwnM w (.slice none 0 0) []:=World.ownsRow_nil w 0 _ 3
theorem OwnM.form {w:World}{v:Value}{l:List Bm}(h:OwnM w v l):v = .slice (vA v) l.length (vC v):=by
 rcases h.2 with ⟨rfl,hn⟩ | ⟨g,cap,cur,rfl,_,_,hle,_⟩
 ·rw[hn];rfl
 ·rfl
def BmAt (n0:Nat) (w:World) (m:Bm):Prop:=RecsAt w m.ra m.b.rs∧m.b.rs.length≤m.rc∧∀ x,m.ra=some x→m.b.rs≠[]→n0≤x.block
theorem BmAt.nil {n0:Nat}{w w':World}{m:Bm}(h:BmAt n0 w m)(hc:Chg Nil w w'):BmAt n0 w' m:=⟨h.1.chg hc (fun _ _ h=>h),h.2⟩
theorem BmAt.chg {n0:Nat}{S:Nat→Prop}{w w':World}{m:Bm}(h:BmAt n0 w m)(hc:Chg S w w')(hn:m.b.rs≠[]→∀ x,m.ra=some x→¬S x.block):BmAt n0 w' m:=by
 refine⟨?_,h.2⟩
 by_cases h0:m.b.rs=[]
 ·intro i hi;rw[h0] at hi;exact absurd hi (by simp)
 ·exact h.1.chg hc (hn h0)
theorem RecsAt.lt {w:World}{a:Option Addr}{rs:List Rec}(h:RecsAt w a rs)(h0:rs≠[]) {x:Addr}(hx:a=some x):x.block<w.heap.size:=by
 obtain⟨b,off,ha,hc⟩:=h 0 (List.length_pos_iff.2 h0)
 rw[ha] at hx;have h1:=World.block_lt_of_cell? _ _ (hc 0 _ rfl)
 obtain rfl:=Option.some.inj hx
 exact h1
theorem OwnM.lt {w:World}{v:Value}{l:List Bm}(h:OwnM w v l):∀ k,v.ownBlock=some k→k<w.heap.size:=ownsRow_lt h
def rowOf (m:Bm):Value:=.slice m.ra m.b.rs.length m.rc
def BmOwn (w:World) (ms:List Bm):Prop:=(∀ m∈ms,OwnR 37 w (rowOf m) m.b.rs)∧ms.Pairwise fun a b=>∀ k,(rowOf a).ownBlock=some k→(rowOf b).ownBlock≠some k
theorem BmOwn.nil {w w':World}{ms:List Bm}(h:BmOwn w ms)(hc:Chg Nil w w'):BmOwn w' ms:=⟨fun m hm=>ownsRow_chg (h.1 m hm) hc (fun _ _ h=>h),h.2⟩
theorem rows_apart {w:World}{e1 e2:TypeId}{z1 z2 n1 n2:Nat}{v u:Value}{xs ys:List Value}(h1:w.ownsRow 0 e1 z1 v n1 xs)(h2:w.ownsRow 0 e2 z2 u n2 ys)(hne:e1≠e2):∀ k,v.ownBlock=some k→u.ownBlock≠some k:=by
 intro k hv hu;rcases h1.2 with ⟨rfl,_⟩ | ⟨g,cap,cur,rfl,_,hg,_⟩
 ·cases hv
 ·obtain rfl:g=k:=Option.some.inj hv
  rcases h2.2 with ⟨rfl,_⟩ | ⟨g',cap',cur',rfl,_,hg',_⟩
  ·cases hu
  ·obtain rfl:g'=g:=Option.some.inj hu
   rw[hg] at hg';exact hne (Obj.cells.inj (Option.some.inj hg')).2.1
def ReadAt (n0:Nat) (w:World) (v:Value) (bl:List Bt):Prop:=
 ∃ ms:List Bm,OwnM w v ms∧ms.map Bm.b=bl∧(∀ m∈ms,BmAt n0 w m)∧∀ k,v.ownBlock=some k→n0≤k
def ReadOwn (n0:Nat) (w:World) (v:Value) (bl:List Bt):Prop:=
 ∃ ms:List Bm,OwnM w v ms∧ms.map Bm.b=bl∧(∀ m∈ms,BmAt n0 w m)∧(∀ k,v.ownBlock=some k→n0≤k)∧BmOwn w ms
theorem ReadOwn.at {n0:Nat}{w:World}{v:Value}{bl:List Bt}(h:ReadOwn n0 w v bl):ReadAt n0 w v bl:=by
 obtain⟨ms,h1,h2,h3,h4,_⟩:=h
 exact⟨ms,h1,h2,h3,h4⟩
theorem sread_own {B:Nat→Prop} {w:World} {p s:Nat} {S:Nat→Prop} {v:Value} {d:Dk} {g:Sg} (h:SgS B w p s S v d g) (hg:g.name.length≤1000) (l:List Bt) (hof:SgOf g l) (sf:Nat) (hf:d.find g.name=some ⟨batBs l,sf⟩) (frm most:Int) :
  Calls Tryz.prog 65 #[.pointer (some ⟨s,0,none⟩),.int .i64 frm,.int .i64 most] w fun e w'=>∃ u,e = .returned (.tuple #[u,.nilIface])∧ReadOwn w.heap.size w' u (readL l frm most)∧Chg Nil w w':=by
 have HL:Hid (l.length≤99999):=by
  have h1:=batBs_len hof.ok
  have h2:=used_le hf
  have h3:=h.a.ok.fits
  have h4:=h.a.ok.room
  have h2:(batBs l).length≤d.used:=h2
  unfold Hid;omega
 have hpl:g.pls.length=l.length:=by rw[hof.pls,plsOf_length]
 have hgp:∀ i (hi:i<l.length),g.pls[i]? = some ⟨(batBs (l.take i)).length,l[i].bytes.length,l[i].base,l[i].en,timeOf l[i].rs⟩:=fun i hi=>by
  rw[hof.pls,plsOf_get 0 l i hi,Nat.zero_add]
 obtain⟨a,c,hv,hle,_,hcell⟩:=h.m.o.val
 have HSE:=Lib.hid (search_any (w:=w) (a:=a) (c:=c) g.pls (by have:=HL.out;omega) hcell (fun i j hj hij=>by
  have h1:=en_mono hof.ok hof.up (i:=i) (j:=j) (by omega) hij
  have h2:=hgp i (by omega)
  have h3:=hgp j (by omega)
  rw[List.getElem?_eq_getElem (by omega)] at h2 h3
  rw[Option.some.inj h2,Option.some.inj h3]
  exact h1) frm)
 have c3:=h.m.c.cell (j:=3) rfl
 have c0:=h.m.c.cell (j:=0) rfl
 have c1:=h.m.c.cell (j:=1) rfl
 have HS:=Lib.hid h
 have HOF:=Lib.hid hof
 have HPL:=Lib.hid hpl
 have HGP:=Lib.hid hgp
 have HCELL:=Lib.hid hcell
 have hkc:l.length≤c:=by omega
 subst hv;rw[hpl] at c3 HSE
 have HF:=Lib.hid hf
 have HGN:Hid ((ByteArray.mk g.name.toArray).size≤4611686018427387904):=by show g.name.toArray.size≤4611686018427387904;simp;omega
 clear h hof hpl hgp hcell hle hf hg;go_enter Tryz.func65,Tryz.ntmps65
 go_wp2_with fail;refine HSE.out.mono ?_
 rintro e w1 ⟨k,bv,rfl,hk,hlo,hhi,hc1⟩
 have HC1:=Lib.hid hc1
 have HLO:=Lib.hid hlo
 have HHI:=Lib.hid hhi
 have hkl:k≤l.length:=by rw[←HPL.out];exact hk
 have c3:=hc1.cell c3 (fun h=>h)
 have hk1:(k:Int)≤(l.length:Int):=by omega
 have hk2:(k:Int)≤(c:Int):=by omega
 have HKL:=Lib.hid hkl
 clear hc1 hlo hhi hk hkl;by_cases hkl:k<l.length
 ·obtain⟨gb,rfl,_⟩:=HCELL.out 0 (by have:=HPL.out;omega)
  have hck:¬c=k:=by omega
  have HST:Hid (readGo true most (l.drop k)=readL l frm most):=by
   unfold Hid readL;rw[drop_search HKL.out (fun i hi hik=>?_) (fun hh=>?_)]
   ·have h1:=HLO.out i (by have:=HPL.out;omega) hik
    have h2:=HGP.out i hi
    rw[List.getElem?_eq_getElem (by have:=HPL.out;omega)] at h2
    rw[Option.some.inj h2] at h1
    exact h1
   ·have h1:=HHI.out (by have:=HPL.out;omega)
    have h2:=HGP.out k hh
    rw[List.getElem?_eq_getElem (by have:=HPL.out;omega)] at h2
    rw[Option.some.inj h2] at h1
    exact h1
  have hdm:(l.length-k:Nat)≤99999:=by have:=HL.out;omega
  go_wp2_with fail;clear c3;go_loopw [2,10,32] (fun mv ov iv wr=>∃ (wq:World) (i:Nat) (mo:Int) (ms:List Bm),wq=wr∧i≤l.length-k∧iv = .int .i64 i∧mv = .int .i64 mo∧OwnM wr ov ms∧Hid ((∀ m∈ms,BmAt w.heap.size wr m)∧(∀ q,ov.ownBlock=some q→w.heap.size≤q)∧ms.length≤i∧ms.map Bm.b++readGo ms.isEmpty mo (l.drop (k+i))=readL l frm most∧∀ m∈ms,m.b.rs≠[]→∀ x,m.ra=some x→ov.ownBlock≠some x.block)∧BmOwn wr ms∧Chg Nil w wr) (fun _ _ iv _=>l.length-k-(RowKit.intOf iv).toNat)
  case atStart=>exact⟨_,0,most,[],rfl,by omega,rfl,rfl,OwnM.nil _,⟨fun m hm=>(by cases hm),fun q hq=>(by simp[Value.ownBlock] at hq),by simp,HST.out,fun m hm=>(by cases hm)⟩,⟨fun m hm=>(by cases hm),List.Pairwise.nil⟩,HC1.out⟩
  case round=>
   obtain⟨wr,i,mo,ms,rfl,hi,rfl,rfl,hown,hst,hbo,hc⟩:=hrel
   have HBO:=Lib.hid hbo
   clear hbo;have HC:=Lib.hid hc
   have HT:Hid _:=hst
   have hov:=hown.form
   generalize vA _=oa at hov;generalize vC _=oc at hov;subst hov;have HOW:=Lib.hid hown
   clear hc hst hown;by_cases hil:i<l.length-k
   ·have hii:(i:Int)<((l.length-k:Nat):Int):=by omega
    have hkil:k+i<l.length:=by omega
    have hbk:∃ bt:Bt,l[k+i]=bt:=⟨_,rfl⟩
    obtain⟨⟨bb,be,brs⟩,hbt⟩:=hbk
    have HBK:Hid ((Bt.mk bb be brs).Ok):=by rw[←hbt];exact HOF.out.ok _ (List.getElem_mem hkil)
    obtain⟨qs,hqs⟩:∃ qs,(Bt.mk bb be brs).bytes.length=qs:=⟨_,rfl⟩
    obtain⟨qa,hqa⟩:∃ qa,(batBs (l.take (k+i))).length=qa:=⟨_,rfl⟩
    obtain⟨qt,hqt⟩:∃ qt,timeOf brs=qt:=⟨_,rfl⟩
    obtain⟨g2,hg2,hz⟩:=HCELL.out (k+i) (by have:=HPL.out;omega)
    have hgq:g.pls[k+i]'(by have:=HPL.out;omega)=⟨qa,qs,bb,be,qt⟩:=by
     have h2:=HGP.out (k+i) hkil
     rw[List.getElem?_eq_getElem (by have:=HPL.out;omega)] at h2
     rw[Option.some.inj h2,hbt,hqa]
     show Pl.mk qa (Bt.mk bb be brs).bytes.length bb be (timeOf brs)=_
     rw[hqs,hqt]
    obtain rfl:gb=g2:=by simpa using hg2
    rw[hgq] at hz;have hof5:(k+i)*5=k*5+i*5:=by omega
    rw[hof5] at hz;have z0:=HC.out.cell (hz 0 _ rfl) (fun h=>h)
    have z1:=HC.out.cell (hz 1 _ rfl) (fun h=>h)
    have z2:=HC.out.cell (hz 2 _ rfl) (fun h=>h)
    have z3:=HC.out.cell (hz 3 _ rfl) (fun h=>h)
    have z4:=HC.out.cell (hz 4 _ rfl) (fun h=>h)
    rw[Nat.add_zero] at z0;have HL2:Hid (d.read (ByteArray.mk g.name.toArray).data.toList (qa:Nat) (qs:Nat)=(Bt.mk bb be brs).bytes):=by
     show d.read g.name _ _=_
     unfold Dk.read readOf;rw[HF.out];have h1:=HBK.out.nums.some
     show (if ((qa:Nat):Int)<0∨((qs:Nat):Int)≤0 then [] else _)=_
     rw[if_neg (by omega)]
     show ((batBs l).drop qa).take qs=_
     have h2:=read_at l [] hkil
     rw[List.append_nil,hqa,hbt] at h2;rw[h2,←hqs];exact List.take_left' rfl
    have HDR:Hid (l.drop (k+i)=⟨bb,be,brs⟩::l.drop (k+(i+1))):=by
     show l.drop (k+i)=_
     rw[List.drop_eq_getElem_cons hkil,hbt]
     rfl
    have HQS:=Lib.hid hqs
    clear hz hgq hg2 hqa hqs hqt hbt hof5 hkil;have hal:=(Chg.refl Nil wr).alloc (.cells #[.int .i64 (qa:Nat),.int .i64 (qs:Nat),.int .i64 bb,.int .i64 be,.int .i64 qt] 157)
    have hbx:=Box.new wr [.int .i64 (qa:Nat),.int .i64 (qs:Nat),.int .i64 bb,.int .i64 be,.int .i64 qt] 157
    go_upto_region 6 with fail;clear z0 z1 z2 z3 z4;have hbx:Box (wr.alloc (.cells #[.int .i64 (qa:Nat),.int .i64 (qs:Nat),.int .i64 bb,.int .i64 be,.int .i64 qt] 157)) wr.heap.size [.int .i64 (qa:Nat),.int .i64 (qs:Nat),.int .i64 bb,.int .i64 be,.int .i64 qt] 157:=hbx
    have HAL:=Lib.hid hal
    clear hal;generalize wr.alloc (.cells #[.int .i64 (qa:Nat),.int .i64 (qs:Nat),.int .i64 bb,.int .i64 be,.int .i64 qt] 157)=w2 at *
    generalize wr.heap.size=gq at *;have y1:=hbx.cell (j:=1) rfl
    have HQB:=Lib.hid hbx
    clear hbx;have HC2:=Lib.hid (HC.out.trans HAL.out (fun _ h=>h.elim))
    have HOW2:Hid (OwnM w2 (.slice oa ms.length oc) ms):=ownsRow_chg HOW.out HAL.out (fun _ _ h=>h)
    go_cut [44] (fun bv wy=>bv = .bool (decide (ms≠[]∧mo<(qs:Int)))∧wy=w2)
    case first=>
     by_cases hms:ms=[]
     ·have hd:decide (ms≠[]∧mo<(qs:Int))=false:=decide_eq_false (fun h=>h.1 hms)
      have HD:=Lib.hid hd
      have h0:¬(0:Int)<(ms.length:Int):=by rw[hms];simp
      clear hms hd;go_wp2_with fail;go_simp;go_meet
      case rel=>exact⟨by rw[HD.out],rfl⟩
     ·have h0:(0:Int)<(ms.length:Int):=by have:=List.length_pos_iff.2 hms;omega
      by_cases hmo:mo<(qs:Int)
      ·have hd:decide (ms≠[]∧mo<(qs:Int))=true:=decide_eq_true ⟨hms,hmo⟩
       have HD:=Lib.hid hd
       clear hms hd;go_wp2_with fail;go_simp;go_meet
       case rel=>exact⟨by rw[HD.out],rfl⟩
      ·have hd:decide (ms≠[]∧mo<(qs:Int))=false:=decide_eq_false (fun h=>hmo h.2)
       have HD:=Lib.hid hd
       clear hms hd;go_wp2_with fail;go_simp;go_meet
       case rel=>exact⟨by rw[HD.out],rfl⟩
    obtain⟨rfl,hwc⟩:=hcut
    obtain rfl:=hwc.symm
    clear y1;by_cases hdo:ms≠[]∧mo<(qs:Int)
    ·have hd:decide (ms≠[]∧mo<(qs:Int))=true:=decide_eq_true hdo
     rw[hd];have HEND:Hid (ms.map Bm.b=readL l frm most):=by
      have h1:=HT.out.2.2.2.1
      rw[HDR.out] at h1;have h2:ms.isEmpty=false:=by
       cases hms:ms with
       | nil=>exact absurd hms hdo.1
       | cons x r=>rfl
      unfold readGo at h1;rw[h2,if_pos ⟨rfl,by rw[HQS.out];exact hdo.2⟩,List.append_nil] at h1
      exact h1
     have HTN:Hid (∀ m∈ms,BmAt w.heap.size w2 m):=fun m hm=>(HT.out.1 m hm).nil HAL.out
     clear hd hdo;go_wp2_with fail;go_ret2;exact⟨_,rfl,⟨ms,HOW2.out,HEND.out,HTN.out,HT.out.2.1,HBO.out.nil HAL.out⟩,HC2.out⟩
    ·have hd:decide (ms≠[]∧mo<(qs:Int))=false:=decide_eq_false hdo
     rw[hd];have HNX:Hid (∀ m2:Bm,m2.b=⟨bb,be,brs⟩→(ms++[m2]).map Bm.b++readGo (ms++[m2]).isEmpty (wrap64 (mo-(qs:Nat))) (l.drop (k+(i+1)))=readL l frm most):=by
      intro m2 hm2;have h1:=HT.out.2.2.2.1
      rw[HDR.out] at h1;have h2:(ms++[m2]).isEmpty=false:=by cases ms<;>rfl
      unfold readGo at h1;rw[if_neg (fun h=>hdo ⟨(by intro e;rw[e] at h;exact absurd h.1 (by simp)),(by have h3:=h.2;rw[HQS.out] at h3;exact h3)⟩),HQS.out] at h1
      rw[h2,List.map_append,List.append_assoc,←h1];show _++([m2.b]++_)=_
      rw[hm2];rfl
     clear hd hdo;have y0:=HQB.out.cell (j:=0) rfl
     have y1:=HQB.out.cell (j:=1) rfl
     have c0:=HC2.out.cell c0 (fun h=>h)
     have c1:=HC2.out.cell c1 (fun h=>h)
     go_wp2_with fail;obtain⟨L,hL⟩:∃ L,(Bt.mk bb be brs).bytes=L:=⟨_,rfl⟩
     have HLL:Hid (L.length≤6000):=by rw[←hL];exact HBK.out.nums.len
     have HLQ:Hid (L.length=qs):=by rw[←hL];exact HQS.out
     have hdw:=decOut_whole HBK.out []
     rw[List.append_nil,hL] at hdw;have HDE:=Lib.hid hdw.1
     have HDO:=Lib.hid hdw.2
     have HRL:=Lib.hid (HL2.out.trans hL)
     clear hdw hL;have hw2:True:=trivial
     go_upto_region 8 with fail;clear hw2;refine Ch.wp_region_last _ _ rfl (ZR w2.heap.size batch0) [18,19] (BatF w2.heap.size L) (by kernel_rfl) (fun _=>ZR.refl _) (fun _ _ _ h k=>h.trans k) [[],[0],[1],[2],[],[4],[5],[6],[],[8],[],[10],[3,7,9,11],[12],[13],[14],[14],[14],[],[15,18],[16]] rfl (by kernel_rfl) (by kernel_rfl) (by kernel_rfl) (ZR.of (Chg.refl Nil _).drew) ?_ ?_
     ·trivial
     simp only[List.dropLast_cons_cons,List.dropLast_singleton]
     iterate 3 ((with_reducible apply Ch.Walk.eq);(case hd=>rfl);(case hi=>rfl);case h=>(intro w2 hw2 N hN;simp only[Ch.depB];go_simp;(try go_bits);with_reducible exact hN _ (ZR.refl _) (fun _ h=>h)))
     ((with_reducible apply Ch.Walk.eq);(case hd=>rfl);(case hi=>rfl);case h=>(intro w2 hw2 N hN;(have hq:=(hw2.nil (Nat.le_refl _)).cell c0 (fun h=>h));simp only[Ch.depB];go_simp;(try go_bits);with_reducible exact hN _ (ZR.refl _) (fun _ h=>h)))
     iterate 3 ((with_reducible apply Ch.Walk.eq);(case hd=>rfl);(case hi=>rfl);case h=>(intro w2 hw2 N hN;simp only[Ch.depB];go_simp;(try go_bits);with_reducible exact hN _ (ZR.refl _) (fun _ h=>h)))
     ((with_reducible apply Ch.Walk.eq);(case hd=>rfl);(case hi=>rfl);case h=>(intro w2 hw2 N hN;(have hq:=(hw2.nil (Nat.le_refl _)).cell c1 (fun h=>h));simp only[Ch.depB];go_simp;(try go_bits);with_reducible exact hN _ (ZR.refl _) (fun _ h=>h)))
     ((with_reducible apply Ch.Walk.eq);(case hd=>rfl);(case hi=>rfl);case h=>(intro w2 hw2 N hN;simp only[Ch.depB];go_simp;(try go_bits);with_reducible exact hN _ (ZR.refl _) (fun _ h=>h)))
     ((with_reducible apply Ch.Walk.eq);(case hd=>rfl);(case hi=>rfl);case h=>(intro w2 hw2 N hN;(have hq:=(hw2.nil (Nat.le_refl _)).cell y0 (fun h=>h));simp only[Ch.depB];go_simp;(try go_bits);with_reducible exact hN _ (ZR.refl _) (fun _ h=>h)))
     ((with_reducible apply Ch.Walk.eq);(case hd=>rfl);(case hi=>rfl);case h=>(intro w2 hw2 N hN;simp only[Ch.depB];go_simp;(try go_bits);with_reducible exact hN _ (ZR.refl _) (fun _ h=>h)))
     ((with_reducible apply Ch.Walk.eq);(case hd=>rfl);(case hi=>rfl);case h=>(intro w2 hw2 N hN;(have hq:=(hw2.nil (Nat.le_refl _)).cell y1 (fun h=>h));simp only[Ch.depB];go_simp;(try go_bits);with_reducible exact hN _ (ZR.refl _) (fun _ h=>h)))
     simp only[List.nil_append,List.cons_append]
     refine Ch.Walk.sat (fun v w=>∃ a c,v = .slice a L.length c∧BytesAt w a L∧L.length≤c∧c≤maxLen) ?_ rfl rfl ?_ ?_
     ·rintro v w6 w7 ⟨a,c,rfl,hb,hl⟩ hz
      exact⟨a,c,rfl,hz.bytes hb batch0_byte,hl⟩
     ·intro w6 hw6 N hN;have HRE:=Lib.hid (read_any ((HS.out.nil HC2.out).nil (hw6.nil (Nat.le_refl _))).a ⟨g.name.toArray⟩ HGN.out (qa:Nat) (qs:Nat))
      simp only[Ch.depB,Ch.depC,Nat.reduceBEq,Nat.reduceAdd]
      go_simp;refine HRE.out.mono ?_
      rintro e w7 ⟨v,rfl,hfr,hc7⟩
      rw[HRL.out] at hfr;obtain⟨a,c,rfl,hb,hl,_,hm⟩:=hfr
      exact⟨_,rfl,hN _ _ ⟨a,c,rfl,hb,hl,hm⟩ (ZR.of hc7) (fun vs hF=>BatF.nil hc7 vs hF)⟩
     simp only[List.nil_append,List.cons_append]
     refine Ch.Walk.sat (DecIs w2.heap.size L) ?_ rfl rfl ?_ ?_
     ·exact fun v w6 w7 h hz=>h.zr hz
     ·intro w6 hw6 N hN;simp only[Ch.depB,Ch.depC,Nat.reduceBEq,Nat.reduceAdd]
      rintro v ⟨a,c,rfl,hb,hl,hm⟩
      have HDC:=Lib.hid (decode_out a L c w6 hl hm hb)
      clear hb hl hm;go_simp;refine HDC.out.mono ?_
      rintro e w7 ⟨v,rfl,hv,hc7⟩
      exact⟨_,rfl,hN _ _ (hv.less hw6.size) (ZR.of hc7) (fun vs hF=>BatF.nil hc7 vs hF)⟩
     simp only[List.nil_append,List.cons_append]
     refine Ch.Walk.sat (DecIs w2.heap.size L) ?_ rfl rfl ?_ ?_
     ·exact fun v w6 w7 h hz=>h.zr hz
     ·intro w6 hw6 N hN;simp only[Ch.depB,Ch.depC,Nat.reduceBEq,Nat.reduceAdd]
      intro v hv;go_simp;exact hN _ _ hv (ZR.refl _) (fun vs hF=>hF)
     simp only[List.nil_append,List.cons_append]
     refine Ch.Walk.sat (DecBt w2.heap.size L) ?_ rfl rfl ?_ ?_
     ·exact fun v w6 w7 h hz=>h.zr hz
     ·intro w6 hw6 N hN;simp only[Ch.depB,Ch.depC,Nat.reduceBEq,Nat.reduceAdd]
      rintro v ⟨u,rfl,ho,hn⟩
      go_simp;exact hN _ _ ⟨u,rfl,ho,hn⟩ (ZR.refl _) (fun vs hF=>hF)
     simp only[List.nil_append,List.cons_append]
     (with_reducible apply Ch.Walk.eq (c:=.int .i64 (qs:Nat)));(case hd=>rfl);(case hi=>rfl);case h=>
      intro w6 hw6 N hN;simp only[Ch.depB,Ch.depC,Nat.reduceBEq,Nat.reduceAdd]
      rintro v ⟨u,rfl,ho,hn⟩
      clear ho hn;have hn:(decOut L).n=qs:=by rw[HDO.out];exact HLQ.out
      go_simp;with_reducible exact hN _ (ZR.refl _) (fun _ h=>h)
     simp only[List.nil_append,List.cons_append]
     (with_reducible apply Ch.Walk.eq (c:=.nilIface));(case hd=>rfl);(case hi=>rfl);case h=>
      intro w6 hw6 N hN;simp only[Ch.depB,Ch.depC,Nat.reduceBEq,Nat.reduceAdd]
      rintro v ⟨u,rfl,ho,hn⟩
      clear ho hn;have hn:errV 65 (decErr L) = .nilIface:=by rw[HDE.out];rfl
      go_simp;with_reducible exact hN _ (ZR.refl _) (fun _ h=>h)
     simp only[List.nil_append,List.cons_append]
     refine Ch.Walk.chain 0 rfl rfl ?_ ?_
     ·intro w8 hw8 vs hvs hF N hN;obtain rfl:=List.eq_nil_of_length_eq_zero hvs
      simp only[Ch.depB,Ch.depC,Nat.reduceBEq,Nat.reduceAdd]
      go_simp;have hal:=(Chg.refl Nil w8).alloc (.cells #[.int .i64 0,.int .i64 0,.slice none 0 0] 112)
      exact hN _ _ (ZR.of hal) ⟨w8.heap.size,rfl,hw8.size,Box.new w8 [.int .i64 0,.int .i64 0,.slice none 0 0] _⟩
     simp only[List.nil_append,List.cons_append]
     refine Ch.Walk.chainSx (fun b:Nat=>Value.pointer (some ⟨b,0,none⟩)) (fun b w=>w2.heap.size≤b∧Box w b [.int .i64 0,.int .i64 0,.slice none 0 0] 112) (fun _ _ h=>h) rfl rfl ?_ ?_
     ·intro w8 hw8 b hb N hN;have hnb:=hb.1
      have hbx:=hb.2
      clear hb;simp only[Ch.depB,Ch.depC,Nat.reduceBEq,Nat.reduceAdd]
      intro v hv;refine Exists.elim hv fun u hu2=>?_
      have e3:=hu2.1
      have ho:=hu2.2.1
      have hn:=hu2.2.2
      clear hv hu2;subst e3;have hu:=ho.form
      generalize vA u=ua at hu;generalize vC u=uc at hu;subst hu;have hcs:Chg (fun k=>k=b) w8 (((w8.setCell ⟨b,0,none⟩ (.int .i64 (decOut L).base)).setCell ⟨b,1,none⟩ (.int .i64 (decOut L).en)).setCell ⟨b,2,none⟩ (.slice ua (decOut L).rs.length uc)):=(((Chg.refl (fun k=>k=b) w8).setCell (p:=⟨b,0,none⟩) (.inl rfl) _).setCell (p:=⟨b,1,none⟩) (.inl rfl) _).setCell (p:=⟨b,2,none⟩) (.inl rfl) _
      have HZ:=Lib.hid (ZR.store hcs hnb hbx)
      have HB9:Hid (Box (((w8.setCell ⟨b,0,none⟩ (.int .i64 (decOut L).base)).setCell ⟨b,1,none⟩ (.int .i64 (decOut L).en)).setCell ⟨b,2,none⟩ (.slice ua (decOut L).rs.length uc)) b [.int .i64 (decOut L).base,.int .i64 (decOut L).en,.slice ua (decOut L).rs.length uc] 112):=((hbx.set 0 _).set 1 _).set 2 _
      have HO:=Lib.hid (ZR.ownsRow HZ.out ho batch0_rec)
      have HNN:=Lib.hid hn
      have HNB:=Lib.hid hnb
      have b0:=hbx.cell (j:=0) rfl
      have f0:=hbx.free 0
      have b1:=hbx.cell (j:=1) rfl
      have f1:=hbx.free 1
      have b2:=hbx.cell (j:=2) rfl
      have f2:=hbx.free 2
      clear hbx ho hn hcs hnb;go_simp;exact hN _ HZ.out ⟨b,_,rfl,HNB.out,HB9.out,HO.out,HNN.out⟩
     simp only[List.nil_append,List.cons_append]
     ((with_reducible apply Ch.Walk.eq);(case hd=>rfl);(case hi=>rfl);case h=>(intro w2 hw2 N hN;simp only[Ch.depB];go_simp;(try go_bits);with_reducible exact hN _ (ZR.refl _) (fun _ h=>h)))
     intro w6 hw6;simp only[List.nil_append,List.cons_append,Ch.Fin,List.map_cons,List.map_nil,List.getD_cons_zero,List.getD_cons_succ]
     intro v1 _ v2 _ v3 _ v4 _ v5 _ hF;have hF:∃ b u,v5 = .pointer (some ⟨b,0,none⟩)∧w2.heap.size≤b∧Box w6 b [.int .i64 (decOut L).base,.int .i64 (decOut L).en,u] 112∧OwnR 37 w6 u (decOut L).rs∧∀ k,u.ownBlock=some k→w2.heap.size≤k:=hF
     rw[HDO.out] at hF;refine Exists.elim hF fun b hF=>?_
     refine Exists.elim hF fun u hF=>?_
     have hv5:=hF.1
     have HNB:=Lib.hid hF.2.1
     have hou:=hF.2.2.2.1
     have hu:=hou.form
     have HNU:=Lib.hid hF.2.2.2.2
     have HW6:Hid (Chg Nil w2 w6):=hw6.nil (Nat.le_refl _)
     have hbx:=hF.2.2.1
     clear hF hw6;subst hv5;generalize vA u=ua at hu;generalize vC u=uc at hu;subst hu;have HOU:=Lib.hid hou
     have x0:=hbx.cell (j:=0) rfl
     have x1:=hbx.cell (j:=1) rfl
     have x2:=hbx.cell (j:=2) rfl
     have y1:=HW6.out.cell y1 (fun h=>h)
     have y2:=HW6.out.cell (HQB.out.cell (j:=2) rfl) (fun h=>h)
     clear hbx hou c0 c1 y0;simp only[Ch.Then,Oper.wp]
     have hqq:((qs:Int)==(qs:Int))=true:=beq_self_eq_true _
     have hbb:(bb==bb)=true:=beq_self_eq_true _
     have HOW6:Hid (OwnM w6 (.slice oa ms.length oc) ms):=ownsRow_chg HOW2.out HW6.out (fun _ _ h=>h)
     have h63:ms.length+1≤maxLen:=by have:=HT.out.2.2.1;unfold maxLen;omega
     have hby:(ms.length+1)*40≤140737488355328:=by have:=HT.out.2.2.1;omega
     have HH63:=Lib.hid h63
     have HBY:=Lib.hid hby
     have hb1:=Box.new w6 [.int .i64 bb,.int .i64 be,.slice ua brs.length uc] 112
     have HB1:=Lib.hid hb1
     clear hb1 h63 hby;go_simp;go_upto_region 11 with fail;have HUS:Hid (∀ x,ua=some x→brs≠[]→w2.heap.size≤x.block∧x.block<w6.heap.size):=by
      intro x hx h0;obtain⟨ra,rc,hv,hrs,_⟩:=HOU.out.recs
      simp only[Value.slice.injEq] at hv
      obtain⟨rfl,_,rfl⟩:=hv
      refine⟨?_,hrs.lt h0 hx⟩
      rcases HOU.out.2 with ⟨h1,h2⟩ | ⟨g9,cap,cur,h1,_⟩
      ·exact absurd (List.eq_nil_of_length_eq_zero h2) h0
      ·simp only[Value.slice.injEq] at h1
       obtain⟨h1,_,_⟩:=h1
       rw[hx] at h1;obtain rfl:=Option.some.inj h1
       exact HNU.out _ (by rw[hx];rfl)
     have HRU:Hid (RecsAt w6 ua brs∧brs.length≤uc):=by
      obtain⟨ra,rc,hv,hrs,hle⟩:=HOU.out.recs
      simp only[Value.slice.injEq] at hv
      obtain⟨rfl,_,rfl⟩:=hv
      exact⟨hrs,hle⟩
     clear y1 y2 hqq hbb;go_wp2_with (at_builtin;go_must (refine wpList_append_grew rfl (.tmp 83) (.tmp 85) 117 117 rfl batT _ Tryz.underlying117 (by intro _;simp) _ _ _ rfl (ownsRow_chg HOW6.out ((Chg.refl Nil w6).alloc _) (fun _ _ h=>h)) _ 1 [.int .i64 bb,.int .i64 be,.slice ua brs.length uc] rfl (Source.box HB1.out rfl (c3_one _ _ _ _ _)) HH63.out HBY.out ?_);intro v2 w7 hown2 hg2 _;obtain⟨x2,n2,c2,rfl⟩:=ownsRow_form hown2)
     go_roundw
     case rel=>
      have hal1:=(Chg.refl Nil w6).alloc (.cells #[.int .i64 bb,.int .i64 be,.slice ua brs.length uc] 112)
      have hz1:=hal1.size
      have hz2:=HW6.out.size
      have hz3:=HAL.out.size
      have hz4:=HC.out.size
      have hol:=HOW.out.lt
      have hsz:∀ i,(Value.slice x2 n2 c2).ownBlock=some i→(Value.slice oa ms.length oc).ownBlock=some i∨w6.heap.size≤i:=fun i hi=>(hg2.own i hi).imp id (fun h=>by omega)
      have hup:Chg (Own (.slice oa ms.length oc)) w2 w7:=((HW6.out.trans hal1 (fun _ h=>h.elim)).weak (fun _ h=>h.elim)).trans hg2.chg (fun i hi=>.inl hi)
      have hup2:Chg (Own (.slice oa ms.length oc)) wr w7:=(HAL.out.weak (fun _ h=>h.elim)).trans hup (fun i hi=>.inl hi)
      refine⟨_,i+1,wrap64 (mo-(qs:Nat)),ms++[⟨⟨bb,be,brs⟩,ua,uc⟩],rfl,by omega,by go_num,rfl,?_,⟨?_,?_,?_,HNX.out _ rfl,?_⟩,?_,?_⟩
      ·unfold OwnM;rw[List.length_append,List.flatMap_append,List.flatMap_cons,List.flatMap_nil,List.append_nil];exact hown2
      ·intro m hm;rcases List.mem_append.1 hm with hm | hm
       ·exact (HT.out.1 m hm).chg hup2 (fun h0 x hx e=>HT.out.2.2.2.2 m hm h0 x hx e)
       ·rw[List.mem_singleton.1 hm]
        have hb0:BmAt w.heap.size w6 ⟨⟨bb,be,brs⟩,ua,uc⟩:=⟨HRU.out.1,HRU.out.2,fun x hx h0=>by have h1:=HUS.out x hx h0;omega⟩
        refine (hb0.nil hal1).chg hg2.chg (fun h0 x hx e=>?_)
        have h1:=HUS.out x hx h0
        have h2:=hol _ e
        omega
      ·intro q hq;rcases hsz q hq with h1 | h1
       ·exact HT.out.2.1 q h1
       ·omega
      ·rw[List.length_append];have:=HT.out.2.2.1
       simp only[List.length_cons,List.length_nil]
       omega
      ·intro m hm h0 x hx e;have h1:=hsz _ e
       rcases List.mem_append.1 hm with hm | hm
       ·rcases h1 with h1 | h1
        ·exact HT.out.2.2.2.2 m hm h0 x hx h1
        ·have h2:=(HT.out.1 m hm).1.lt h0 hx
         omega
       ·rw[List.mem_singleton.1 hm] at h0 hx
        have h2:=HUS.out x hx h0
        rcases h1 with h1 | h1
        ·have h3:=hol _ h1
         omega
        ·omega
      ·have hnew:OwnR 37 w7 (.slice ua brs.length uc) brs:=ownsRow_chg (ownsRow_chg HOU.out hal1 (fun _ _ h=>h)) hg2.chg (fun k hk e=>by
        have h1:=HNU.out k hk
        have h2:=hol _ e
        omega)
       refine⟨fun m hm=>?_,?_⟩
       ·rcases List.mem_append.1 hm with hm | hm
        ·exact ownsRow_chg (HBO.out.1 m hm) hup2 (fun k hk e=>rows_apart (HBO.out.1 m hm) HOW.out (by decide) k hk e)
        ·rw[List.mem_singleton.1 hm]
         exact hnew
       ·refine List.pairwise_append.2 ⟨HBO.out.2,List.pairwise_singleton _ _,fun a ha b hb k hk e=>?_⟩
        rw[List.mem_singleton.1 hb] at e
        have h1:=HNU.out k e
        have h2:=ownsRow_lt (HBO.out.1 a ha) k hk
        omega
      ·exact HC.out.trans hup2 (fun i hi=>.inr (HT.out.2.1 i hi))
     case measure=>simp[RowKit.intOf];omega
   ·have hii:¬(i:Int)<((l.length-k:Nat):Int):=by omega
    have HEND:Hid (ms.map Bm.b=readL l frm most):=by
     have h1:=HT.out.2.2.2.1
     rw[List.drop_eq_nil_of_le (by omega)] at h1
     unfold readGo at h1;rw[List.append_nil] at h1;exact h1
    go_wp2_with fail;go_ret2;exact⟨_,rfl,⟨ms,HOW.out,HEND.out,HT.out.1,HT.out.2.1,HBO.out⟩,HC.out⟩
 ·obtain rfl:k=l.length:=by have:=HKL.out;omega
  have HNIL:Hid (∀ w',Chg Nil w w'→ReadOwn w.heap.size w' (.slice none 0 0) (readL l frm most)):=by
   intro w' hw';refine⟨[],OwnM.nil _,?_,fun m hm=>(by cases hm),fun q hq=>(by simp[Value.ownBlock] at hq),⟨fun m hm=>(by cases hm),List.Pairwise.nil⟩⟩
   unfold readL;rw[drop_search (k:=l.length) (Nat.le_refl _) (fun i hi hik=>?_) (fun hh=>absurd hh (by omega)),List.drop_length]
   ·rfl
   ·have h1:=HLO.out i (by have:=HPL.out;omega) hik
    have h2:=HGP.out i hi
    rw[List.getElem?_eq_getElem (by have:=HPL.out;omega)] at h2
    rw[Option.some.inj h2] at h1
    exact h1
  by_cases hck:c=l.length
  ·subst hck;go_wp2_with fail;go_loopw [10,32] (fun ov iv wr=>∃ (wq:World),wq=wr∧ov = .slice none 0 0∧iv = .int .i64 0∧wr=w1) (fun _ _ _=>0)
   case atStart=>exact⟨_,rfl,rfl,rfl,rfl⟩
   case round=>
    obtain⟨wr,rfl,rfl,rfl,h1⟩:=hrel
    obtain rfl:=h1.symm
    go_wp2_with fail;go_ret2;exact⟨_,rfl,HNIL.out _ HC1.out,HC1.out⟩
  ·
   go_wp2_with fail;go_loopw [10,32] (fun ov iv wr=>∃ (wq:World),wq=wr∧ov = .slice none 0 0∧iv = .int .i64 0∧wr=w1) (fun _ _ _=>0)
   case atStart=>exact⟨_,rfl,rfl,rfl,rfl⟩
   case round=>
    obtain⟨wr,rfl,rfl,rfl,h1⟩:=hrel
    obtain rfl:=h1.symm
    go_wp2_with fail;go_ret2;exact⟨_,rfl,HNIL.out _ HC1.out,HC1.out⟩
theorem sread_any {B:Nat→Prop}{w:World}{p s:Nat}{S:Nat→Prop}{v:Value}{d:Dk}{g:Sg}(h:SgS B w p s S v d g)(hg:g.name.length≤1000) (l:List Bt)(hof:SgOf g l) (sf:Nat)(hf:d.find g.name=some ⟨batBs l,sf⟩) (frm most:Int) :
  Calls Tryz.prog 65 #[.pointer (some ⟨s,0,none⟩),.int .i64 frm,.int .i64 most] w fun e w'=>∃ u,e = .returned (.tuple #[u,.nilIface])∧ReadAt w.heap.size w' u (readL l frm most)∧Chg Nil w w':=
 (sread_own h hg l hof sf hf frm most).mono fun e w' ⟨u,h1,h2,h3⟩=>⟨u,h1,h2.at,h3⟩
theorem OwnM.val {w:World}{v:Value}{l:List Bm}(h:OwnM w v l):∃ a cap,v = .slice a l.length cap∧l.length≤cap∧
  ∀ i (h:i<l.length),∃ g,a=some ⟨g,0,none⟩∧∀ j u,(l[i].c3)[j]? = some u→w.cell? ⟨g,i*3+j,none⟩=some u:=by
 rcases h.2 with ⟨rfl,hn⟩ | ⟨g,cap,cur,rfl,_,_,hle,_⟩
 ·exact⟨none,0,by rw[hn],by omega,fun i hi=>absurd hi (by omega)⟩
 ·have e1:∀ j,(⟨g,0,none⟩:Addr).add j=⟨g,j,none⟩:=fun j=>by unfold Addr.add;split<;>simp_all
  refine⟨some ⟨g,0,none⟩,cap,rfl,hle,fun i hi=>⟨g,rfl,fun j u hj=>?_⟩⟩
  have:=World.ownsRow.cells h (g:=g) rfl (i*3+j) _ (fm_get (f:=Bm.c3) (n:=3) (fun _=>rfl) l i hi j _ hj)
  rwa [e1] at this
end Go.Proofs.YtdjmifaidgbbaaaGreatDoor
