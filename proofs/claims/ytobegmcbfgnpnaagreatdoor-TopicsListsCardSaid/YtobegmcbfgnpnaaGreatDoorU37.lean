/-
  A partition's directory; the store's topics. (Of the topics' seat.)
-/
import Derived.Test.YtobegmcbfgnpnaaGreatDoorU36
set_option linter.unusedVariables false
set_option linter.unusedSimpArgs false
set_option maxHeartbeats 0
set_option maxRecDepth 200000
namespace Go.Proofs.YtobegmcbfgnpnaaGreatDoor
open Go.RowKit Go.Lib Go.Shelf
def dirOf (n:List UInt8) (k:Nat):List UInt8:=n++45::decDigits k
theorem dir_any {w:World} (hT:Tabs w) (s:ByteArray) (hs:s.size≤1000) (k:Nat) (hk:k≤100000) :
  Calls Tryz.prog 66 #[.string s,.int .i64 k] w fun e w'=>e = .returned (.string ⟨(dirOf s.data.toList k).toArray⟩)∧Chg Nil w w':=by
 have hI:=itoa_any hT k (by omega)
 have hl:(decDigits k).length≤6:=dec_len 5 k (by omega)
 obtain⟨r,hr⟩:∃ r:ByteArray,(ByteArray.mk (decDigits k).toArray)=r:=⟨_,rfl⟩
 rw[hr] at hI;have hrs:r.size≤6:=by rw[←hr,size_eq];exact hl
 have HR:=Lib.hid hr
 have HI:=Lib.hid hI
 clear hT hI hl hr;go_enter Tryz.func66,Tryz.ntmps66
 go_wp2_with (go_at_call 123;refine HI.out.mono ?_;rintro e w' ⟨rfl,hc⟩)
 go_ret;refine⟨?_,hc⟩
 have e:(s++ByteArray.mk #[45]++r)=⟨(dirOf s.data.toList k).toArray⟩:=by
  apply ba_eq
  rw[←HR.out];simp[dirOf]
 rw[←e];rfl
structure StT (w:World) (st p:Nat) (c1 c2 c3 va vd:Value) (es:List Nat) (ts:List Tp):Prop where
 box:Box w st [.pointer (some ⟨p,0,none⟩),c1,c2,c3,va,vd] 118
 row:OwnE w va es
 len:es.length=ts.length
 ent:∀ i (h:i<es.length)(h':i<ts.length),∃ lv,Box w es[i] (ts[i].cells lv) 126
theorem OwnE.val {w:World}{v:Value}{l:List Nat}(h:OwnE w v l):∃ a cap,v = .slice a l.length cap∧l.length≤cap∧∀ i (h:i<l.length),∃ g,a=some ⟨g,0,none⟩∧w.cell? ⟨g,i,none⟩=some (.pointer (some ⟨l[i],0,none⟩)):=by
 rcases h.2 with ⟨rfl,hn⟩ | ⟨g,cap,cur,rfl,_,_,hle,_⟩
 ·exact⟨none,0,by rw[hn],by omega,fun i hi=>absurd hi (by omega)⟩
 ·have e1:∀ j,(⟨g,0,none⟩:Addr).add j=⟨g,j,none⟩:=fun j=>by unfold Addr.add;split<;>simp_all
  refine⟨some ⟨g,0,none⟩,cap,rfl,hle,fun i hi=>⟨g,rfl,?_⟩⟩
  have:=World.ownsRow.cells h (g:=g) rfl i (.pointer (some ⟨l[i],0,none⟩)) (by rw[List.getElem?_map,List.getElem?_eq_getElem hi];rfl)
  rwa [e1] at this
theorem topics_any {w:World} {st p:Nat} {c1 c2 c3 va vd:Value} {es:List Nat} {ts:List Tp} (h:StT w st p c1 c2 c3 va vd es ts) (hfew:es.length≤10000) :
  Calls Tryz.prog 14 #[.pointer (some ⟨st,0,none⟩)] w fun e w'=>∃ v,e = .returned v∧OwnTp w' v ts∧(∀ b,v.ownBlock=some b→w.heap.size≤b)∧Chg Nil w w':=by
 have c4:=h.box.cell (j:=4) rfl
 obtain⟨a,cap,hv,hcap,hcell⟩:=h.row.val
 have HCELL:=Lib.hid hcell
 have HENT:Hid (∀ i (hi:i<es.length) (hi':i<ts.length),∃ lv,Box w es[i] (ts[i].cells lv) 126):=h.ent
 have HLEN:=Lib.hid h.len
 subst hv;obtain⟨n,hn⟩:∃ n,es.length=n:=⟨_,rfl⟩
 have HNN:=Lib.hid hn
 rw[hn] at c4 hfew
 clear h hcap hcell hn;go_enter Tryz.func14,Tryz.ntmps14
 go_wp2_with fail;go_loopw [3,11] (fun ov iv wr=>∃ (wq:World) (i:Nat),wq=wr∧i≤n∧iv = .int .i64 i∧Hid (OwnTp wr ov (ts.take i))∧Hid (∀ b,ov.ownBlock=some b→w.heap.size≤b)∧Hid (Chg Nil w wr)) (fun _ iv _=>n-(RowKit.intOf iv).toNat)
 case atStart=>exact⟨_,0,rfl,Nat.zero_le _,rfl,World.ownsRow_nil _ _ _ _,fun b hb=>(by cases hb),Chg.refl _ _⟩
 case round=>
  obtain⟨wr,i,rfl,hi,rfl,HOW,HOB,HC⟩:=hrel
  clear c4;by_cases hin:i<n
  ·have hii:(i:Int)<(n:Int):=by omega
   have hi3:(i:Int)+1≤20000:=by omega
   have hie:i<es.length:=by rw[HNN.out];exact hin
   have hit:i<ts.length:=by rw[←HLEN.out];exact hie
   obtain⟨b,rfl,hz⟩:=HCELL.out i hie
   obtain⟨lv,hbx⟩:=HENT.out i hie hit
   obtain⟨t,ht⟩:∃ t,ts[i]=t:=⟨_,rfl⟩
   have htk:ts.take (i+1)=ts.take i++[t]:=by rw[List.take_succ_eq_append_getElem hit,ht]
   have htl:(ts.take i).length=i:=by rw[List.length_take];omega
   rw[ht] at hbx;obtain⟨q,hq⟩:∃ q,es[i]=q:=⟨_,rfl⟩
   rw[hq] at hz hbx
   have hz:=HC.out.cell hz (fun h=>h)
   have hbx:=hbx.chg HC.out (fun h=>h)
   have e0:=hbx.cell (j:=0) rfl
   have e1:=hbx.cell (j:=1) rfl
   have e2:=hbx.cell (j:=2) rfl
   have hown:OwnTp wr u3 (ts.take i):=HOW.out
   unfold OwnTp at hown;rw[htl] at hown;have HOA:=Lib.hid (ownsRow_chg hown ((Chg.refl Nil wr).alloc (.cells #[.string ⟨t.name.toArray⟩,.int .i64 (t.starts.length:Nat),.bool t.comp] 41)) (fun _ _ h=>h))
   have HBN:=Lib.hid (Box.new wr [.string ⟨t.name.toArray⟩,.int .i64 (t.starts.length:Nat),.bool t.comp] 41)
   have HTK:=Lib.hid htk
   have HTL:=Lib.hid htl
   clear htk htl hown hbx ht hq hie hit;go_wp2_with (at_builtin;go_must (refine wpList_append_grew rfl (.tmp 15) (.tmp 20) 30 30 rfl topT _ Tryz.underlying30 (by intro _;simp) u3 i ((ts.take i).flatMap Tp.top) rfl HOA.out _ 1 [.string ⟨t.name.toArray⟩,.int .i64 (t.starts.length:Nat),.bool t.comp] rfl (Source.box HBN.out rfl (Tp.top_one t)) (by unfold maxLen;omega) (by omega) ?_);intro v2 w7 hown2 hg2 _;have HOW2:=Lib.hid hown2;have HG2:=Lib.hid hg2;clear hown2 hg2)
   have HC7:Hid (Chg Nil w w7):=((HC.out.alloc (.cells #[.string ⟨t.name.toArray⟩,.int .i64 (t.starts.length:Nat),.bool t.comp] 41))).trans HG2.out.chg (fun b hb=>.inr (HOB.out b hb))
   have HOB7:Hid (∀ b,v2.ownBlock=some b→w.heap.size≤b):=fun b hb=>by
    rcases HG2.out.own b hb with h | h
    ·exact HOB.out b h
    ·have h1:=HC.out.size
     rw[World.size_alloc] at h;omega
   go_roundw
   case rel=>
    refine⟨_,i+1,rfl,by omega,by simp,?_,HOB7,HC7⟩
    show OwnTp w7 v2 (ts.take (i+1))
    rw[HTK.out];unfold OwnTp;rw[List.length_append,HTL.out,List.length_singleton,List.flatMap_append,List.flatMap_cons,List.flatMap_nil,List.append_nil];exact HOW2.out
   case measure=>simp[RowKit.intOf];omega
  ·have hie:i=n:=by omega
   subst hie;have hnn:¬(i:Int)<(i:Int):=by omega
   have HTT:Hid (ts.take i=ts):=List.take_of_length_le (by rw[←HLEN.out,HNN.out];exact Nat.le_refl _)
   clear hin;go_wp2_with fail;go_ret;refine⟨_,rfl,?_,HOB.out,HC.out⟩
   rw[←HTT.out];exact HOW.out
theorem fieldsGo_cut {c:UInt8}(hc:isSp c=true):∀ (l cur:List UInt8)(h:List UInt8) (t:List (List UInt8)),cutAt c l=h::t→fieldsGo cur l=fieldsGo cur h++t.flatMap (fieldsGo [])
 | [],cur,h,t,e=>by
  simp[cutAt] at e
  obtain⟨rfl,rfl⟩:=e
  simp
 | x::r,cur,h,t,e=>by
  unfold cutAt at e;split at e
  ·next hx=>
   subst hx;obtain⟨rfl,rfl⟩:=List.cons.inj e
   cases hcr:cutAt x r with
   | nil=>exact absurd hcr (cutAt_ne _ _)
   | cons q s=>
    have ih:=fieldsGo_cut hc r [] q s hcr
    rw[List.flatMap_cons,←ih];cases cur with
    | nil=>simp[fieldsGo,hc]
    | cons _ _=>simp[fieldsGo,hc]
  ·next hx=>
   cases hcr:cutAt c r with
   | nil=>exact absurd hcr (cutAt_ne _ _)
   | cons q s=>
    rw[hcr] at e;obtain⟨rfl,rfl⟩:=List.cons.inj e
    have ih:=fun cur=>fieldsGo_cut hc r cur q s hcr
    cases hb:isSp x
    ·simp only[fieldsGo,hb]
     exact ih _
    ·cases cur with
     | nil=>simp only[fieldsGo,hb];exact ih _
     | cons _ _=>
      have:=ih []
      simp[fieldsGo,hb,this]
theorem fields_cut {c:UInt8}(hc:isSp c=true) (l:List UInt8):fields l=(cutAt c l).flatMap fields:=by
 cases h:cutAt c l with
 | nil=>exact absurd h (cutAt_ne _ _)
 | cons q s=>exact fieldsGo_cut hc l [] q s h
theorem fields_word:∀ {x:List UInt8},x≠[]→(∀ b∈x,isSp b=false)→fields x=[x]:=by
 have key:∀ (x cur:List UInt8),(∀ b∈x,isSp b=false)→fieldsGo cur x=if (cur++x).isEmpty then [] else [cur++x]:=by
  intro x;induction x with
  | nil=>intro cur _;simp[fieldsGo]
  | cons b r ih=>
   intro cur h;rw[fieldsGo_more cur b r (h b (List.mem_cons_self ..)),ih _ (fun y hy=>h y (List.mem_cons_of_mem _ hy))]
   simp
 intro x hx h;have:=key x [] h
 rw[show fields x=fieldsGo [] x from rfl,this,List.nil_append]
 cases x with
 | nil=>exact absurd rfl hx
 | cons _ _=>rfl
theorem field_of {l line x:List UInt8}(h1:line∈cutAt 10 l)(h2:x∈cutAt 32 line)(hx:x≠[])(hs:∀ b∈x,isSp b=false):x∈fields l:=by
 rw[fields_cut (c:=10) (by decide) l,List.mem_flatMap]
 refine⟨line,h1,?_⟩
 rw[fields_cut (c:=32) (by decide) line,List.mem_flatMap]
 refine⟨x,h2,?_⟩
 rw[fields_word hx hs]
 exact List.mem_singleton.2 rfl
theorem linesV_mem:∀ {ps:List (List UInt8)}{y:List UInt8},y∈linesV ps→y∈ps
 | [],y,h=>by cases h
 | [p],y,h=>by
  have h':y∈(if p=[] then [] else [p]:List (List UInt8)):=h
  split at h'
  ·cases h'
  ·exact h'
 | p::q::r,y,h=>by
  rcases List.mem_cons.1 h with rfl | h
  ·exact List.mem_cons_self ..
  ·exact List.mem_cons_of_mem _ (linesV_mem h)
theorem linesV_back:∀ {ps:List (List UInt8)}{y:List UInt8},y∈ps→y=[]∨y∈linesV ps
 | [],y,h=>by cases h
 | [p],y,h=>by
  obtain rfl:=List.mem_singleton.1 h
  by_cases hy:y=[]
  ·exact .inl hy
  ·right
   show y∈(if y=[] then [] else [y]:List (List UInt8))
   rw[if_neg hy]
   exact List.mem_singleton.2 rfl
 | p::q::r,y,h=>by
  rcases List.mem_cons.1 h with rfl | h
  ·exact .inr (List.mem_cons_self ..)
  ·rcases linesV_back h with h | h
   ·exact .inl h
   ·exact .inr (List.mem_cons_of_mem _ h)
theorem mem_cut {c:UInt8}:∀ {l:List UInt8}{b:UInt8},b∈l→b=c∨∃ p∈cutAt c l,b∈p
 | [],b,h=>by cases h
 | x::r,b,h=>by
  unfold cutAt;split
  ·next hx=>
   rcases List.mem_cons.1 h with rfl | h
   ·exact .inl hx
   ·rcases mem_cut (c:=c) h with h | ⟨p,hp,hb⟩
    ·exact .inl h
    ·exact .inr ⟨p,List.mem_cons_of_mem _ hp,hb⟩
  ·cases hcr:cutAt c r with
   | nil=>exact absurd hcr (cutAt_ne _ _)
   | cons q s=>
    rcases List.mem_cons.1 h with rfl | h
    ·exact .inr ⟨b::q,List.mem_cons_self ..,List.mem_cons_self ..⟩
    ·rcases mem_cut (c:=c) h with h | ⟨p,hp,hb⟩
     ·exact .inl h
     ·rw[hcr] at hp;rcases List.mem_cons.1 hp with rfl | hp
      ·exact .inr ⟨x::p,List.mem_cons_self ..,List.mem_cons_of_mem _ hb⟩
      ·exact .inr ⟨p,List.mem_cons_of_mem _ hp,hb⟩
theorem digit_not_sp {b:UInt8}(h:digitsC.contains b=true):isSp b=false∧b.toNat<128:=by
 have h1:b∈digitsC:=by simpa using h
 have h2:∀ x∈digitsC,isSp x=false∧x.toNat<128:=by decide
 exact h2 b h1
theorem numT_all {x:List UInt8}{v:Int}(h:numT x=some v):x.all (digitsC.contains ·)=true∧atoiAll x = .ok v∧x≠[]:=by
 unfold numT at h;split at h
 ·next u hu=>
  split at h
  ·next hd=>
   obtain rfl:=Option.some.inj h
   refine⟨hd,hu,fun e=>?_⟩
   subst e;cases hu
  ·cases h
 ·cases h
theorem numsT_each:∀ {l:List (List UInt8)}{vs:List Int},numsT l=some vs→(∀ x∈l,∃ v,numT x=some v)∧∀ v∈vs,∃ x∈l,numT x=some v
 | [],vs,h=>by
  simp[numsT] at h
  subst h;exact⟨fun x hx=>(by cases hx),fun v hv=>(by cases hv)⟩
 | x::r,vs,h=>by
  unfold numsT at h;cases hx:numT x with
  | none=>rw[hx] at h;simp at h
  | some v=>
   cases ha:numsT r with
   | none=>rw[hx,ha] at h;simp at h
   | some m=>
    rw[hx,ha] at h;simp at h
    subst h;obtain⟨h1,h2⟩:=numsT_each ha
    refine⟨fun y hy=>?_,fun u hu=>?_⟩
    ·rcases List.mem_cons.1 hy with rfl | hy
     ·exact⟨v,hx⟩
     ·exact h1 y hy
    ·rcases List.mem_cons.1 hu with rfl | hu
     ·exact⟨x,List.mem_cons_self ..,hx⟩
     ·obtain⟨y,hy,e⟩:=h2 u hu
      exact⟨y,List.mem_cons_of_mem _ hy,e⟩
theorem listT_each:∀ {l:List (List UInt8)}{ts:List Tp},listT l=some ts→(∀ x∈l,∃ t,lineT x=some t)∧∀ t∈ts,∃ x∈l,lineT x=some t
 | [],vs,h=>by
  simp[listT] at h
  subst h;exact⟨fun x hx=>(by cases hx),fun v hv=>(by cases hv)⟩
 | x::r,vs,h=>by
  unfold listT at h;cases hx:lineT x with
  | none=>rw[hx] at h;simp at h
  | some v=>
   cases ha:listT r with
   | none=>rw[hx,ha] at h;simp at h
   | some m=>
    rw[hx,ha] at h;simp at h
    subst h;obtain⟨h1,h2⟩:=listT_each ha
    refine⟨fun y hy=>?_,fun u hu=>?_⟩
    ·rcases List.mem_cons.1 hy with rfl | hy
     ·exact⟨v,hx⟩
     ·exact h1 y hy
    ·rcases List.mem_cons.1 hu with rfl | hu
     ·exact⟨x,List.mem_cons_self ..,hx⟩
     ·obtain⟨y,hy,e⟩:=h2 u hu
      exact⟨y,List.mem_cons_of_mem _ hy,e⟩
theorem lineT_parts {s:List UInt8}{t:Tp}(h:lineT s=some t):∃ n c r,cutAt 32 s=n::c::r∧nameOk 10 cutTopic n=true∧(c=[48]∨c=[49])∧numsT r=some t.starts∧t.name=n:=by
 unfold lineT at h;split at h
 ·next n c x r e=>
  split at h
  ·next hc=>
   cases hn:numsT (x::r) with
   | none=>rw[hn] at h;cases h
   | some l=>
    rw[hn] at h;obtain rfl:=Option.some.inj h
    exact⟨n,c,x::r,e,hc.1,hc.2,hn,rfl⟩
  ·cases h
 ·cases h
theorem topic_chars {n:List UInt8}(h:nameOk 10 cutTopic n=true):∀ b∈n,b∈cutTopic:=by
 unfold nameOk at h;simp only[Bool.and_eq_true,List.all_eq_true,List.contains_iff_mem] at h
 exact fun b hb=>h.2 b hb
theorem list_ascii {text:List UInt8}{ts:List Tp}(h:listT (linesOf text)=some ts):∀ b∈text,b.toNat<128:=by
 intro b hb;rcases mem_cut (c:=10) hb with rfl | ⟨line,hl,hbl⟩
 ·decide
 rcases linesV_back hl with rfl | hl
 ·cases hbl
 obtain⟨t,ht⟩:=(listT_each h).1 line hl
 obtain⟨n,c,r,e,hn,hc,hr,_⟩:=lineT_parts ht
 rcases mem_cut (c:=32) hbl with rfl | ⟨w,hw,hbw⟩
 ·decide
 rw[e] at hw;rcases List.mem_cons.1 hw with rfl | hw
 ·have h1:=topic_chars hn b hbw
  have h2:∀ x∈cutTopic,x.toNat<128:=by decide
  exact h2 b h1
 rcases List.mem_cons.1 hw with rfl | hw
 ·rcases hc with rfl | rfl
  ·rw[List.mem_singleton.1 hbw];decide
  ·rw[List.mem_singleton.1 hbw];decide
 ·obtain⟨v,hv⟩:=(numsT_each hr).1 w hw
  have h1:=(numT_all hv).1
  rw[List.all_eq_true] at h1;exact (digit_not_sp (h1 b hbw)).2
theorem starts_small {text:List UInt8}{ts:List Tp}(h:listT (linesOf text)=some ts)(hf:∀ x∈fields text,∀ v,atoiAll x = .ok v→v≤1099511627776):∀ t∈ts,∀ v∈t.starts,0≤v∧v≤1099511627776:=by
 intro t ht v hv;obtain⟨line,hl,hlt⟩:=(listT_each h).2 t ht
 obtain⟨n,c,r,e,hn,hc,hr,_⟩:=lineT_parts hlt
 obtain⟨x,hx,hxv⟩:=(numsT_each hr).2 v hv
 obtain⟨h1,h2,h3⟩:=numT_all hxv
 refine⟨numT_pos hxv,hf x (field_of (linesV_mem hl) (by rw[e];exact List.mem_cons_of_mem _ (List.mem_cons_of_mem _ hx)) h3 (fun b hb=>?_)) v h2⟩
 rw[List.all_eq_true] at h1;exact (digit_not_sp (h1 b hb)).1
end Go.Proofs.YtobegmcbfgnpnaaGreatDoor
