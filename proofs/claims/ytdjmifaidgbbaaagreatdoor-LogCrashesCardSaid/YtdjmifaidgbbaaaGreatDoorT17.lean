/-
  api.Tell, plain.Bare and the law's 'bare' at nil and at an Errno.
-/
import Derived.Test.YtdjmifaidgbbaaaGreatDoorT16
set_option linter.unusedVariables false
set_option linter.unusedSimpArgs false
set_option maxHeartbeats 0
set_option maxRecDepth 200000
namespace Go.Proofs.YtdjmifaidgbbaaaGreatDoor
open Go.RowKit Go.Extern.Stop Go.Stop Go.Extern
theorem tell_nil (w:World):Calls Tryz.prog 72 #[.nilIface] w fun e w'=>e = .returned (.int .i64 0)∧w=w':=by
 go_enter Tryz.func72,Tryz.ntmps72
 go_wp2
 go_ret;exact⟨rfl,rfl⟩
theorem tell_errno (k:Int) (w:World)(hg:Handle w):Calls Tryz.prog 72 #[.iface 65 (.int .i64 k)] w fun e w'=>e = .returned (.int .i64 k)∧Chg Nil w w':=by
 have hlt:0<w.heap.size:=World.block_lt_of_cell? _ _ hg
 go_enter Tryz.func72,Tryz.ntmps72
 go_wp2_with (go_at_call 109;refine (as_hit k ⟨w.heap.size,0,none⟩ (.int .i64 0) _ (hg.chg ((Chg.refl Nil w).alloc _) (fun h=>h)) ?_ ?_).mono ?_;(simp);(simp);rintro e w' ⟨rfl,rfl⟩)
 go_ret;refine⟨rfl,?_⟩
 exact (((((Chg.refl Nil w).alloc _).alloc _).alloc _).alloc _).alloc _
theorem back_more {base en:Int}{rs:List Rec}(h:encErr base en rs=0) (more:List UInt8) :
  decErr (encAll base en rs++more)=0∧fromB (encAll base en rs++more)=(encAll base en rs).length∧(encAll base en rs++more).take (fromB (encAll base en rs++more))=encAll base en rs:=by
 obtain⟨h0,hl,hf,hp⟩:=decErr_enc h
 have hlo:8≤(encAll base en rs).length:=by omega
 have hfm:fromB (encAll base en rs++more)=fromB (encAll base en rs):=by
  have hg:∀ j,j<4→(encAll base en rs++more).getD j 0=(encAll base en rs).getD j 0:=by
   intro j hj;simp only[List.getD_eq_getElem?_getD,List.getElem?_append_left (show j<(encAll base en rs).length by omega)]
  rw[fromB_eq,fromB_eq,hg 0 (by omega),hg 1 (by omega),hg 2 (by omega),hg 3 (by omega)]
 have hfl:fromB (encAll base en rs)=(encAll base en rs).length:=by omega
 have hd4:fromB ((encAll base en rs++more).drop 4)=fromB ((encAll base en rs).drop 4):=by
  have hg:∀ j,j<4→((encAll base en rs++more).drop 4).getD j 0=((encAll base en rs).drop 4).getD j 0:=by
   intro j hj;simp only[List.getD_eq_getElem?_getD,List.getElem?_drop,List.getElem?_append_left (show 4+j<(encAll base en rs).length by omega)]
  rw[fromB_eq,fromB_eq,hg 0 (by omega),hg 1 (by omega),hg 2 (by omega),hg 3 (by omega)]
 have ht:(encAll base en rs++more).take (fromB (encAll base en rs++more))=encAll base en rs:=by
  rw[hfm,hfl];exact List.take_left' rfl
 refine⟨?_,by rw[hfm,hfl],ht⟩
 have h0':=h0
 unfold decErr at h0' ⊢
 rw[ht,hd4,hfm];rw[List.take_of_length_le (by omega)] at h0'
 by_cases g1:(encAll base en rs).length<8
 ·omega
 rw[if_neg g1] at h0'
 rw[if_neg (by rw[List.length_append];omega)]
 by_cases g2:fromB (encAll base en rs)<11∨6000<fromB (encAll base en rs)
 ·rw[if_pos g2] at h0';cases h0'
 rw[if_neg g2] at h0' ⊢
 rw[if_neg (by omega)] at h0'
 rw[if_neg (by rw[List.length_append];omega)]
 exact h0'
theorem numbered_ok' {base:Int}{rs:List Rec}(h0:0≤base)(h1:base+rs.length≤9223372036854775807)(h:∀ r∈rs,r.Ok):∀ r∈numbered base rs,r.Ok:=by
 induction rs generalizing base with
 | nil=>simp[numbered]
 | cons x rs ih=>
  intro r hr;simp only[List.length_cons] at h1
  rcases List.mem_cons.1 hr with rfl | hr
  ·have hx:=h x (by simp)
   exact⟨by simp only;omega,hx.time,hx.key,hx.value⟩
  ·exact ih (by omega) (by push_cast at h1;omega) (fun y hy=>h y (by simp[hy])) r hr
structure Bt where
 base:Int
 en:Int
 rs:List Rec
def Bt.bytes (b:Bt):List UInt8:=encAll b.base b.en b.rs
structure Bt.Ok (b:Bt):Prop where
 err:encErr b.base b.en b.rs=0
 recs:∀ r∈b.rs,Rec.Ok r
structure Bt.Nums (b:Bt):Prop where
 lo:0≤b.base
 lt:b.base<b.en
 hi:b.en≤1099511627776
 few:b.rs.length≤50
 len:b.bytes.length≤6000
 some:11≤b.bytes.length
theorem checked_of_enc {base en:Int}{rs:List Rec}(h:encErr base en rs=0):checkB base en rs=0:=by
 unfold encErr at h;by_cases hc:checkB base en rs=0
 ·exact hc
 ·rw[if_pos hc] at h;exact absurd h hc
theorem Bt.Ok.nums {b:Bt}(h:b.Ok):b.Nums:=by
 have hc:=checked_of_enc h.err
 obtain⟨h0,hl,hf,hp⟩:=decErr_enc h.err
 have h0':=h0
 unfold decErr at h0'
 unfold checkB at hc;by_cases g1:b.base<0∨1099511627776<b.en
 ·rw[if_pos g1] at hc;cases hc
 rw[if_neg g1] at hc
 by_cases g2:b.en≤b.base
 ·rw[if_pos g2] at hc;cases hc
 rw[if_neg g2] at hc
 by_cases g3:50<b.rs.length∨50<b.en-b.base
 ·rw[if_pos g3] at hc;cases hc
 by_cases g4:(encAll b.base b.en b.rs).length<8
 ·rw[if_pos g4] at h0';cases h0'
 rw[if_neg g4] at h0'
 by_cases g5:fromB (encAll b.base b.en b.rs)<11∨6000<fromB (encAll b.base b.en b.rs)
 ·rw[if_pos g5] at h0';cases h0'
 have e:b.bytes.length=(encAll b.base b.en b.rs).length:=rfl
 exact⟨by omega,by omega,by omega,by omega,by omega,by omega⟩
def batBs (l:List Bt):List UInt8:=l.flatMap Bt.bytes
theorem batBs_cons (b:Bt) (l:List Bt):batBs (b::l)=b.bytes++batBs l:=List.flatMap_cons
theorem batBs_append (l m:List Bt):batBs (l++m)=batBs l++batBs m:=List.flatMap_append
theorem batBs_snoc (l:List Bt) (b:Bt):batBs (l++[b])=batBs l++b.bytes:=by rw[batBs_append,batBs_cons];simp[batBs]
def plsOf:Nat→List Bt→List Pl
 | _,[]=>[]
 | n,b::l=>⟨n,b.bytes.length,b.base,b.en,timeOf b.rs⟩::plsOf (n+b.bytes.length) l
theorem plsOf_length:∀ (n:Nat) (l:List Bt),(plsOf n l).length=l.length
 | _,[]=>rfl
 | n,b::l=>by rw[plsOf,List.length_cons,plsOf_length,List.length_cons]
theorem plsOf_snoc:∀ (n:Nat) (l:List Bt) (b:Bt),plsOf n (l++[b])=plsOf n l++[⟨n+(batBs l).length,b.bytes.length,b.base,b.en,timeOf b.rs⟩]
 | n,[],b=>by simp[plsOf,batBs]
 | n,a::l,b=>by
  rw[List.cons_append,plsOf,plsOf_snoc,plsOf,batBs_cons,List.length_append,List.cons_append,Nat.add_assoc]
theorem plsOf_get:∀ (n:Nat) (l:List Bt) (i:Nat)(hi:i<l.length),(plsOf n l)[i]? = some ⟨n+(batBs (l.take i)).length,l[i].bytes.length,l[i].base,l[i].en,timeOf l[i].rs⟩
 | n,[],i,hi=>by simp at hi
 | n,a::l,0,hi=>by simp[plsOf,batBs]
 | n,a::l,i+1,hi=>by
  rw[plsOf,List.getElem?_cons_succ,plsOf_get _ l i (by simpa using hi),List.take_succ_cons,batBs_cons,List.length_append,Nat.add_assoc]
  rfl
def rising:Int→List Bt→Prop
 | _,[]=>True
 | n,b::l=>n≤b.base∧rising b.en l
def lastEnd:Int→List Bt→Int
 | n,[]=>n
 | _,b::l=>lastEnd b.en l
theorem lastEnd_snoc:∀ (n:Int) (l:List Bt) (b:Bt),lastEnd n (l++[b])=b.en
 | _,[],_=>rfl
 | _,a::l,b=>lastEnd_snoc a.en l b
theorem rising_snoc:∀ {n:Int}{l:List Bt}{b:Bt},rising n l→lastEnd n l≤b.base→rising n (l++[b])
 | _,[],_,_,h=>⟨h,trivial⟩
 | _,a::l,b,h,h2=>⟨h.1,rising_snoc h.2 h2⟩
theorem rising_take:∀ {n:Int}{l:List Bt} (k:Nat),rising n l→rising n (l.take k)
 | _,[],k,_=>by rw[List.take_nil];trivial
 | _,a::l,0,_=>trivial
 | _,a::l,k+1,h=>⟨h.1,rising_take k h.2⟩
theorem rising_next:∀ {n:Int}{l:List Bt}{i:Nat}(hi:i<l.length),rising n l→lastEnd n (l.take i)≤l[i].base
 | _,a::l,0,_,h=>h.1
 | _,a::l,i+1,hi,h=>rising_next (n:=a.en) (l:=l) (i:=i) (by simpa using hi) h.2
theorem rising_mem:∀ {n:Int}{l:List Bt},(∀ b∈l,b.Ok)→rising n l→∀ b∈l,n≤b.base
 | _,[],_,_,b,hb=>by cases hb
 | n,a::l,hok,h,b,hb=>by
  rcases List.mem_cons.1 hb with rfl | hb
  ·exact h.1
  ·have h1:=rising_mem (fun b hb=>hok b (List.mem_cons_of_mem _ hb)) h.2 b hb
   have h2:=(hok a (List.mem_cons_self ..)).nums.lt
   have:=h.1
   omega
theorem rising_lt:∀ {n:Int}{l:List Bt},(∀ b∈l,b.Ok)→rising n l→∀ {i j:Nat}(hj:j<l.length)(hij:i<j),(l[i]'(Nat.lt_trans hij hj)).en≤l[j].base
 | n,a::l,hok,h,0,j+1,hj,_=>rising_mem (fun b hb=>hok b (List.mem_cons_of_mem _ hb)) h.2 _ (List.getElem_mem _)
 | n,a::l,hok,h,i+1,j+1,hj,hij=>rising_lt (l:=l) (fun b hb=>hok b (List.mem_cons_of_mem _ hb)) h.2 (by simpa using hj) (by omega)
theorem lastEnd_le:∀ {n:Int}{l:List Bt},(∀ b∈l,b.Ok)→rising n l→n≤lastEnd n l∧∀ b∈l,b.en≤lastEnd n l
 | n,[],_,_=>⟨Int.le_refl _,fun b hb=>by cases hb⟩
 | n,a::l,hok,h=>by
  have h1:=lastEnd_le (fun b hb=>hok b (List.mem_cons_of_mem _ hb)) h.2
  have h2:=(hok a (List.mem_cons_self ..)).nums.lt
  have:=h.1
  refine⟨by show n≤lastEnd a.en l;omega,fun b hb=>?_⟩
  rcases List.mem_cons.1 hb with rfl | hb
  ·exact h1.1
  ·exact h1.2 b hb
structure SgOf (g:Sg) (l:List Bt):Prop where
 pls:g.pls=plsOf 0 l
 size:g.size=(batBs l).length
 ok:∀ b∈l,b.Ok
 up:rising g.base l
theorem SgOf.next {g:Sg}{l:List Bt}(h:SgOf g l):g.next=lastEnd g.base l:=by
 unfold Sg.next;rw[h.pls];rcases List.eq_nil_or_concat l with rfl | ⟨m,b,rfl⟩
 ·rfl
 ·rw[List.concat_eq_append,plsOf_snoc,lastEnd_snoc];simp
theorem SgOf.noted {g:Sg}{l:List Bt}(h:SgOf g l) {b:Bt}(hb:b.Ok)(hn:g.next≤b.base):SgOf (g.noted b.base b.en b.rs b.bytes.length) (l++[b]):=by
 refine⟨?_,?_,?_,rising_snoc h.up (by have h1:=h.next;show lastEnd g.base l≤b.base;omega)⟩
 ·show g.pls++[_]=_
  rw[plsOf_snoc,h.pls,h.size,Nat.zero_add]
 ·show g.size+b.bytes.length=_
  rw[batBs_snoc,List.length_append,h.size]
 ·intro c hc;rcases List.mem_append.1 hc with hc | hc
  ·exact h.ok c hc
  ·rw[List.mem_singleton.1 hc];exact hb
theorem parse_more {b:Bt}(h:b.Ok) (more:List UInt8):decErr (b.bytes++more)=0∧fromB (b.bytes++more)=b.bytes.length∧(parse (((b.bytes++more).take (fromB (b.bytes++more))).drop 8))=⟨b.base.toNat,(b.en-b.base).toNat,b.rs,([],false)⟩:=by
 obtain⟨h1,h2,h3⟩:=back_more h.err more
 obtain⟨h0,hl,hf,hp⟩:=decErr_enc h.err
 refine⟨h1,h2,?_⟩
 rw[hf,←hl,List.take_of_length_le (Nat.le_refl _)] at hp
 show parse ((List.take (fromB (encAll b.base b.en b.rs++more)) (encAll b.base b.en b.rs++more)).drop 8)=_
 rw[h3,hp]
structure DecV where
 base:Int
 en:Int
 n:Nat
 rs:List Rec
def decOut (l:List UInt8):DecV:=
 if decErr l=0 then ⟨((parse ((l.take (fromB l)).drop 8)).base:Nat),((parse ((l.take (fromB l)).drop 8)).base:Int)+((parse ((l.take (fromB l)).drop 8)).len:Nat),fromB l,(parse ((l.take (fromB l)).drop 8)).recs⟩ else ⟨0,0,0,[]⟩
theorem decOut_bad {l:List UInt8}(h:decErr l≠0):decOut l=⟨0,0,0,[]⟩:=if_neg h
theorem decOut_whole {b:Bt}(h:b.Ok) (more:List UInt8):decErr (b.bytes++more)=0∧decOut (b.bytes++more)=⟨b.base,b.en,b.bytes.length,b.rs⟩:=by
 obtain⟨h1,h2,h3⟩:=parse_more h more
 have hn:=h.nums
 refine⟨h1,?_⟩
 unfold decOut;rw[if_pos h1,h3,h2]
 have e1:((b.base.toNat:Nat):Int)=b.base:=Int.toNat_of_nonneg hn.lo
 have e2:(b.base.toNat:Int)+((b.en-b.base).toNat:Nat)=b.en:=by have:=hn.lt;have:=hn.lo;omega
 show DecV.mk ((b.base.toNat:Nat):Int) ((b.base.toNat:Int)+((b.en-b.base).toNat:Nat)) _ _=_
 rw[e2,e1]
def DecIs (n:Nat) (l:List UInt8) (v:Value) (w:World):Prop:=
 ∃ u,v = .tuple #[.agg #[.int .i64 (decOut l).base,.int .i64 (decOut l).en,u],.int .i64 ((decOut l).n:Nat),errV 65 (decErr l)]∧OwnR 37 w u (decOut l).rs∧∀ k,u.ownBlock=some k→n≤k
theorem decode_out (a:Option Addr) (l:List UInt8) (cap:Nat) (w:World)(hcap:l.length≤cap)(hl:cap≤maxLen)(hb:BytesAt w a l) :
  Calls Tryz.prog 90 #[.slice a l.length cap] w fun e w'=>∃ v,e = .returned v∧DecIs w.heap.size l v w'∧Chg Nil w w':=by
 refine (decode_any a l cap w hcap hl hb).mono ?_
 rintro e w' ⟨hch,hd⟩
 rcases hd with ⟨hne,rfl⟩ | ⟨h0,v,rfl,hown,hnew⟩
 ·refine⟨_,rfl,⟨.slice none 0 0,?_,?_,fun k hk=>by cases hk⟩,hch⟩
  ·rw[decOut_bad hne];rfl
  ·rw[decOut_bad hne];exact OwnR.nil _ _
 ·have e1:decOut l=⟨((parse ((l.take (fromB l)).drop 8)).base:Nat),((parse ((l.take (fromB l)).drop 8)).base:Int)+((parse ((l.take (fromB l)).drop 8)).len:Nat),fromB l,(parse ((l.take (fromB l)).drop 8)).recs⟩:=if_pos h0
  refine⟨_,rfl,⟨v,?_,?_,hnew⟩,hch⟩
  ·rw[e1,h0];rfl
  ·rw[e1];exact hown
theorem read_at (l:List Bt) (junk:List UInt8) {i:Nat}(hi:i<l.length):(batBs l++junk).drop (batBs (l.take i)).length=l[i].bytes++(batBs (l.drop (i+1))++junk):=by
 have e:l=l.take i++l[i]::l.drop (i+1):=by rw[List.getElem_cons_drop,List.take_append_drop]
 have e2:batBs l=batBs (l.take i)++(l[i].bytes++batBs (l.drop (i+1))):=by
  conv=>lhs;rw[e]
  rw[batBs_append,batBs_cons]
 rw[e2,List.append_assoc,List.drop_left' rfl,List.append_assoc]
def readGo:Bool→Int→List Bt→List Bt
 | _,_,[]=>[]
 | fst,most,b::l=>if fst=false∧most<(b.bytes.length:Int) then [] else b::readGo false (wrap64 (most-(b.bytes.length:Nat))) l
def readL (l:List Bt) (frm most:Int):List Bt:=readGo true most (l.dropWhile fun b=>decide (b.en≤frm))
theorem readGo_sub:∀ (f:Bool) (m:Int) (l:List Bt),∀ b∈readGo f m l,b∈l
 | _,_,[],b,hb=>hb
 | f,m,a::l,b,hb=>by
  unfold readGo at hb;split at hb
  ·cases hb
  ·rcases List.mem_cons.1 hb with rfl | hb
   ·exact List.mem_cons_self ..
   ·exact List.mem_cons_of_mem _ (readGo_sub _ _ l b hb)
theorem readGo_len:∀ (f:Bool) (m:Int) (l:List Bt),(readGo f m l).length≤l.length
 | _,_,[]=>Nat.le_refl _
 | f,m,a::l=>by
  unfold readGo;split
  ·simp
  ·have:=readGo_len false (wrap64 (m-(a.bytes.length:Nat))) l
   simp only[List.length_cons]
   omega
theorem drop_search:∀ {l:List Bt}{frm:Int}{k:Nat},k≤l.length→(∀ i (h:i<l.length),i<k→l[i].en≤frm)→(∀ h:k<l.length,frm<l[k].en)→l.dropWhile (fun b=>decide (b.en≤frm))=l.drop k
 | [],_,k,hk,_,_=>by simp
 | b::l,frm,0,hk,h1,h2=>by
  have h3:frm<b.en:=h2 (by simp)
  rw[List.dropWhile_cons_of_neg (by simpa using h3)]
  rfl
 | b::l,frm,k+1,hk,h1,h2=>by
  have h3:b.en≤frm:=h1 0 (by simp) (by omega)
  rw[List.dropWhile_cons_of_pos (by simpa using h3),List.drop_succ_cons]
  exact drop_search (by simpa using hk) (fun i hi hik=>h1 (i+1) (by simpa using hi) (by omega)) (fun h=>h2 (by simpa using h))
theorem en_mono {n:Int}{l:List Bt}(hok:∀ b∈l,b.Ok)(h:rising n l) {i j:Nat}(hj:j<l.length)(hij:i≤j):(l[i]'(Nat.lt_of_le_of_lt hij hj)).en≤l[j].en:=by
 rcases Nat.lt_or_eq_of_le hij with hlt | rfl
 ·have h1:=rising_lt hok h hj hlt
  have h2:=(hok l[j] (List.getElem_mem _)).nums.lt
  omega
 ·exact Int.le_refl _
def Bt.keep (p:Rec→Bool) (b:Bt):Bt:=⟨b.base,b.en,b.rs.filter p⟩
theorem checkRecs_filter (p:Rec→Bool) {en:Int}:∀ {rs:List Rec}{last last':Int},checkRecs en last rs=0→last'≤last→checkRecs en last' (rs.filter p)=0
 | [],_,_,_,_=>rfl
 | r::rs,last,last',h,hl=>by
  unfold checkRecs at h;by_cases g1:badArg last en r=true
  ·rw[if_pos g1] at h;cases h
  rw[if_neg g1] at h
  by_cases g2:badLen r=true
  ·rw[if_pos g2] at h;cases h
  rw[if_neg g2] at h
  by_cases g3:badTime r=true
  ·rw[if_pos g3] at h;cases h
  rw[if_neg g3] at h
  have h4:last<r.off:=by
   unfold badArg at g1;simp only[Bool.or_eq_true,decide_eq_true_eq,not_or] at g1
   omega
  cases hp:p r with
  | false=>
   rw[List.filter_cons_of_neg (by simp[hp])]
   exact checkRecs_filter p h (by omega)
  | true=>
   rw[List.filter_cons_of_pos hp]
   unfold checkRecs;have g1':¬badArg last' en r=true:=by
    unfold badArg at g1 ⊢
    simp only[Bool.or_eq_true,decide_eq_true_eq,not_or] at g1 ⊢
    exact⟨⟨⟨by omega,g1.1.1.2⟩,g1.1.2⟩,g1.2⟩
   rw[if_neg g1',if_neg g2,if_neg g3]
   exact checkRecs_filter p h (Int.le_refl _)
theorem put_mono:∀ (m:Nat) {n:Nat},n≤m→(put n).length≤(put m).length:=by
 intro m;induction m using Nat.strongRecOn with
 | _ m ih=>
  intro n h;by_cases hm:m<128
  ·rw[put_lo hm,put_lo (n:=n) (by omega)];simp
  ·by_cases hn:n<128
   ·rw[put_lo hn,put_hi (n:=m) (by omega)];simp
   ·rw[put_hi (n:=n) (by omega),put_hi (n:=m) (by omega)]
    simp only[List.length_cons]
    have:=ih (m / 128) (by omega) (n:=n / 128) (by omega)
    omega
theorem encRecs_filter (p:Rec→Bool) (base:Int):∀ rs:List Rec,(encRecs base (rs.filter p)).length≤(encRecs base rs).length
 | []=>Nat.le_refl _
 | r::rs=>by
  have h:=encRecs_filter p base rs
  cases hp:p r with
  | false=>
   rw[List.filter_cons_of_neg (by simp[hp])]
   simp only[encRecs,List.length_append]
   omega
  | true=>
   rw[List.filter_cons_of_pos hp]
   simp only[encRecs,List.length_append]
   omega
theorem encBody_filter (p:Rec→Bool) (base en:Int) (rs:List Rec):(encBody base en (rs.filter p)).length≤(encBody base en rs).length:=by
 have h1:=encRecs_filter p base rs
 have h2:=put_mono rs.length (List.length_filter_le p rs)
 unfold encBody encHead;simp only[List.length_append]
 omega
theorem Bt.Ok.keep {b:Bt}(h:b.Ok) (p:Rec→Bool):(b.keep p).Ok:=by
 have hc:=checked_of_enc h.err
 have hn:=h.nums
 have he:=h.err
 refine⟨?_,fun r hr=>h.recs r (List.mem_filter.1 hr).1⟩
 have hf:=List.length_filter_le p b.rs
 have hb:=encBody_filter p b.base b.en b.rs
 have hck:checkB b.base b.en (b.rs.filter p)=0:=by
  unfold checkB at hc ⊢
  have g1:¬(b.base<0∨1099511627776<b.en):=by have:=hn.lo;have:=hn.hi;omega
  have g2:¬b.en≤b.base:=by have:=hn.lt;omega
  rw[if_neg g1,if_neg g2] at hc ⊢
  by_cases g3:50<b.rs.length∨50<b.en-b.base
  ·rw[if_pos g3] at hc;cases hc
  rw[if_neg g3] at hc
  rw[if_neg (by omega)]
  exact checkRecs_filter p hc (Int.le_refl _)
 unfold encErr at he;rw[if_neg (by simpa using hc)] at he
 by_cases g:6000<8+(encBody b.base b.en b.rs).length
 ·rw[if_pos g] at he;cases he
 show encErr b.base b.en (b.rs.filter p)=0
 unfold encErr;rw[if_neg (by simpa using hck),if_neg (by omega)]
theorem rising_map (f:Bt→Bt)(h1:∀ b,(f b).base=b.base)(h2:∀ b,(f b).en=b.en):∀ {n:Int}{l:List Bt},rising n l→rising n (l.map f)
 | _,[],_=>trivial
 | _,b::l,h=>⟨by rw[h1];exact h.1,by rw[h2];exact rising_map f h1 h2 h.2⟩
theorem lastEnd_map (f:Bt→Bt)(h2:∀ b,(f b).en=b.en):∀ {n:Int}{l:List Bt},lastEnd n (l.map f)=lastEnd n l
 | _,[]=>rfl
 | _,b::l=>by
  show lastEnd (f b).en (l.map f)=lastEnd b.en l
  rw[h2];exact lastEnd_map f h2
structure ZR (n:Nat) (Z:Obj) (w w':World):Prop where
 os:w'.os=w.os
 tape:w'.tape=w.tape
 output:w'.output=w.output
 size:w.heap.size≤w'.heap.size
 block:∀ k,k<w.heap.size→w'.heap[k]? = w.heap[k]?∨(n≤k∧w.heap[k]? = some Z)
theorem ZR.of {n:Nat}{Z:Obj}{w w':World}(h:Chg Nil w w'):ZR n Z w w':=⟨h.os,h.tape,h.output,h.size,fun k hk=>.inl (h.block k hk (fun h=>h))⟩
theorem ZR.refl {n:Nat}{Z:Obj} (w:World):ZR n Z w w:=.of (Chg.refl _ _)
theorem ZR.trans {n:Nat}{Z:Obj}{a b c:World}(h:ZR n Z a b) (k:ZR n Z b c):ZR n Z a c:=by
 refine⟨k.os.trans h.os,k.tape.trans h.tape,k.output.trans h.output,Nat.le_trans h.size k.size,fun i hi=>?_⟩
 rcases h.block i hi with g | g
 ·rcases k.block i (Nat.lt_of_lt_of_le hi h.size) with g2 | ⟨g1,g2⟩
  ·exact .inl (g2.trans g)
  ·exact .inr ⟨g1,by rw[←g];exact g2⟩
 ·exact .inr g
theorem ZR.nil {n:Nat}{Z:Obj}{w w':World}(h:ZR n Z w w')(hn:w.heap.size≤n):Chg Nil w w':=
 ⟨h.os,h.tape,h.output,h.size,fun k hk _=>(h.block k hk).elim id (fun g=>by omega)⟩
theorem ZR.store {n b:Nat}{Z:Obj}{w w':World}(h:Chg (fun k=>k=b) w w')(hb:n≤b)(hz:w.heap[b]? = some Z):ZR n Z w w':=
 ⟨h.os,h.tape,h.output,h.size,fun k hk=>if e:k=b then .inr ⟨by omega,by rw[e];exact hz⟩ else .inl (h.block k hk e)⟩
theorem ZR.at {n:Nat}{Z:Obj}{w w':World}(h:ZR n Z w w') (k:Nat)(hk:w.heap[k]?≠some Z):Chg (fun i=>i≠k) w w':=
 ⟨h.os,h.tape,h.output,h.size,fun i hi hn=>by
  obtain rfl:i=k:=Decidable.not_not.1 hn
  exact (h.block i hi).elim id (fun g=>absurd g.2 hk)⟩
theorem ZR.all {n:Nat}{Z:Obj}{w w':World}(h:ZR n Z w w'):Chg (fun _=>True) w w':=⟨h.os,h.tape,h.output,h.size,fun _ _ h=>absurd trivial h⟩
theorem ZR.ownsRow {n:Nat}{Z:Obj}{w w':World}(h:ZR n Z w w') {e:TypeId}{sz len:Nat}{v:Value}{cells:List Value}(hv:w.ownsRow 0 e sz v len cells)(hne:∀ cur,Z≠.cells cur e (0,0)):w'.ownsRow 0 e sz v len cells:=by
 have hv2:=hv.2
 rcases hv2 with ⟨rfl,hn⟩ | ⟨g,cap,cur,rfl,_,hg,_⟩
 ·exact ownsRow_chg hv h.all (fun k hk=>by cases hk)
 ·exact ownsRow_chg hv (h.at g (by rw[hg];intro e;exact hne _ (Option.some.inj e).symm)) (fun k hk h=>h (Option.some.inj hk).symm)
theorem ZR.bytes {n:Nat}{Z:Obj}{w w':World}(h:ZR n Z w w') {a:Option Addr}{l:List UInt8}(hb:BytesAt w a l)(hZ:∀ (b off:Nat) (x:UInt8),w.heap[b]? = some Z→w.cell? ⟨b,off,none⟩≠some (bval x)):BytesAt w' a l:=by
 intro i hi;obtain⟨b,off,ha,hc⟩:=hb i hi
 refine⟨b,off,ha,?_⟩
 exact (h.at b (fun hz=>hZ b _ _ hz hc)).cell hc (fun h=>h rfl)
def batch0:Obj:=.cells #[.int .i64 0,.int .i64 0,.slice none 0 0] 112 (0,0)
theorem batch0_byte {w:World} (b off:Nat) (x:UInt8)(h:w.heap[b]? = some batch0):w.cell? ⟨b,off,none⟩≠some (bval x):=by
 rw[cell_of_row w b off _ _ _ h]
 rcases off with _ | _ | _ | k
 ·intro e;cases e
 ·intro e;cases e
 ·intro e;cases e
 ·intro e;simp at e
theorem batch0_rec (cur:Array Value):batch0≠.cells cur 37 (0,0):=by
 intro e;unfold batch0 at e;injection e with _ h2 _
 exact absurd h2 (by decide)
namespace Ch
section
variable {P:Program} {ops:Array Oper} {R:World→World→Prop} {C:List Nat} {F:List Value→World→Prop} {w0:World} {Q:Exit→Act→World→Prop} {a0:Act}
theorem Walk.chainSx {β:Type} (G:β→Value) (H:β→World→Prop)(hG:∀ v w,F [v] w→∃ b,v=G b∧H b w) {js:List Nat}{E:List (List Nat)}{o:Oper}{os:List Oper}{specs:List Spec}(hd:o.dst=none)(hi:C[1]? = some specs.length)
  (h:∀ w,R w0 w→∀ b:β,H b w→∀ N:Value→World→Prop,(∀ w',R w w'→F [G b,undef] w'→N undef w')→Ob P ops o N w (depsOf ops (chained C [G b] specs) js) a0)
  (hrest:Walk P ops R C F w0 Q a0 E os (specs++[Sum.inl undef])):Walk P ops R C F w0 Q a0 (js::E) (o::os) specs:=
 Walk.chainS 1 hd hi (fun w hw vs hvs hF N hN=>by
  obtain⟨v,rfl⟩:=List.length_eq_one_iff.1 hvs
  obtain⟨b,rfl,hb⟩:=hG v w hF
  exact h w hw b hb N hN) hrest
end
end Ch
end Go.Proofs.YtdjmifaidgbbaaaGreatDoor
