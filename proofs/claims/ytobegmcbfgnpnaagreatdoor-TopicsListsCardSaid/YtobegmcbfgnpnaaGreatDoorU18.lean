/-
  maps.Values and maps.Keys at the disk's map: for every loop body.
-/
import Derived.Test.YtobegmcbfgnpnaaGreatDoorU17
import Derived.RangeFuncMany
import Derived.Sort.MapsRangeIn
import Derived.Sort.KeysCollected
set_option linter.unusedVariables false
set_option linter.unusedSimpArgs false
set_option maxHeartbeats 0
set_option maxRecDepth 200000
namespace Go.Proofs.YtobegmcbfgnpnaaGreatDoor
open Go.RowKit Go.Maps Go.Sort
theorem datOf_inj {a b:Option Nat}(h:datOf a=datOf b):a=b:=by
 cases a<;>cases b<;>simp[datOf] at h
 ·rfl
 ·rename_i a b
  have:a=b:=by omega
  rw[this]
theorem pairs_perm {ps fs:List (Nm×Nat)}(hp:(ps.map (·.1)).Nodup)(hf:(fs.map (·.1)).Nodup)(hv:∀ p∈ps,fs.lookup p.1=some p.2)(hall:∀ x,x∈ps.map (·.1)↔(fs.lookup x).isSome=true):ps.Perm fs:=by
 have nd:∀ l:List (Nm×Nat),(l.map (·.1)).Nodup→l.Nodup:=fun l h=>List.Pairwise.of_map _ (fun a b hab e=>hab (by rw[e])) h
 refine (List.perm_ext_iff_of_nodup (nd _ hp) (nd _ hf)).2 fun q=>⟨fun h=>lookup_some (hv q h),fun h=>?_⟩
 have h1:=lookup_mem hf h
 have h2:q.1∈ps.map (·.1):=(hall q.1).2 (by rw[h1];rfl)
 obtain⟨r,hr,he⟩:=List.mem_map.1 h2
 have h3:=hv r hr
 rw[he,h1] at h3;have:r=q:=by
  cases r;cases q
  simp at he h3
  rw[he,h3]
 rw[←this];exact hr
def encP (b:Nat):Value:=ptrOf (some b)
theorem values1_in (F:Fence) (n:Nat) (h8:F.fn 164) (hro:F.round=none) (hn:1≤n) (l Bm b:Nat) (fs:List (Nm×Nat)) (J Jx:List Nat→World→Prop)
  (hY:∀ pre x W,x∈fs.map (·.2)→J pre W→pre.length<fs.length→YieldAt F (n-1) Tryz.prog l #[encP x] W fun e W'=>
   (e = .returned (.bool true)∧J (pre++[x]) W'∧KeepsWalks W W')∨(e = .returned (.bool false)∧Jx (pre++[x]) W'))
  (W:World) (hJ:AbidesFrom W.heap.size J) (hm:W.cell? ⟨Bm,0,none⟩=some (.map (some b))) (hmap:MapAt W b fs) (h0:J [] W) :
  CallsIn F n Tryz.prog 164 #[.func (.yield l) #[] #[],.pointer (some ⟨Bm,0,none⟩)] W fun e W'=>(∃ v,e = .returned v)∧
   ((∃ xs,xs.Perm (fs.map (·.2))∧J xs W')∨(∃ pre,True∧Jx pre W')):=by
 obtain⟨hnd,D0,hown,hsz,hD⟩:=hmap
 refine callsIn_of_wp Tryz.func164 rfl h8 ?_ hro
 simp only[Tryz.ntmps164,List.size_toArray,List.length_cons,List.length_nil,Nat.reduceAdd,Nat.reduceSub,Array.replicate_succ,Array.replicate_zero,List.push_toArray,List.append_toArray,List.nil_append,List.cons_append]
 gi_wp2_with (first
  | (gi_at_range;refine wpListIn_range_own _ rfl _ 105 rfl 9 108 keyedS Tryz.underlying105 _ b fs.length _ rfl hown ?_;intro w0 hrg0 hg0 hs0)
  | gi_in)
 go_frame
 gi_loopw [4] (fun _ wr=>∃ (left:Lit→Bool) (cnt:Nat) (ps:List (Nm×Nat)),wr.ranges Tryz.prog 9 ptrElem b W.heap.size fs.length D0 left cnt∧ps.length+cnt≤Maps.size D0∧Collected D0 left (ps.map (·.1))∧(∀ p∈ps,fs.lookup p.1=some p.2)∧J (ps.map (·.2)) wr)
  (fun _ wr=>wr.rangeLeft b W.heap.size)
 case atStart=>
  exact⟨_,_,[],hrg0,by simp,Collected.start D0,by simp,hJ [] W w0 none h0 hg0 (fun r e=>by cases e)⟩
 case round=>
  obtain⟨left,cnt,ps,hrg,hcs,hC,hV,hJs⟩:=hrel
  gi_wp2_with (first
   | (gi_at_next;refine wpListIn_next_ranges _ rfl _ rfl 9 keyedS ptrElem encStr ptrOf (fun key kl hk=>by obtain⟨x,hx,_⟩:=Maps.keyOf_str Tryz.underlying9 hk;exact⟨x,hx⟩) (fun v y hv=>by unfold ptrElem at hv;split at hv;exact⟨none,rfl⟩;exact⟨some _,rfl⟩;cases hv) b W.heap.size fs.length _ _ _ rfl hrg ?_ ?_)
   | gi_in)
  ·
   intro hc0 hl0;gi_wp2
   go_end0
   refine⟨⟨_,rfl⟩,.inl ⟨_,(pairs_perm hC.1 hnd hV fun x=>?_).map _,hJs⟩⟩
   rw[←(hD x).2]
   exact⟨fun h=>((hC.2 x).1 h).1,fun h=>by rw[hC.2 x,hl0];exact⟨h,by simp⟩⟩
  ·
   intro x c kl yd yp w2 cnt2 hkey hlk hv hat hrg2 hlt hg2 hs2 hen;obtain⟨x',ex,rfl,_⟩:=Maps.keyOf_str Tryz.underlying9 hkey
   obtain rfl:x=x':=encStr_inj ex
   have hC2':=hC.step hlk hat
   have hc:fs.lookup x=c:=by
    have h1:=hat .nil
    rw[(hD x).1] at h1
    rw[ptrElem_of] at hv;have h2:datOf c=yd:=by simpa using congrArg (fun z=>z.map (·.1)) hv
    exact datOf_inj (h1.trans h2.symm)
   have hsome:(fs.lookup x).isSome=true:=by
    rw[←(hD x).2]
    exact ((hC2'.2 x).1 (by simp)).1
   obtain⟨bl,hbl⟩:∃ bl,fs.lookup x=some bl:=Option.isSome_iff_exists.1 hsome
   rw[hbl] at hc;subst hc;have hJ2:J (ps.map (·.2)) w2:=hJ _ wr w2 (some W.heap.size) hJs hg2 (fun r e=>by cases e;exact⟨Nat.le_refl _,hrg.iter_walk⟩)
   obtain⟨fn,tmps,assign,body,hy,hR⟩:=hY (ps.map (·.2)) bl w2 (List.mem_map.2 ⟨(x,bl),lookup_some hbl,rfl⟩) hJ2 (by simp;omega)
   clear hs2;have hC2:Collected D0 (fun z=>left z && !z.sameKey (.string x)) ((ps++[(x,bl)]).map (·.1)):=by simpa using hC2'
   have hV2:∀ p∈ps++[(x,bl)],fs.lookup p.1=some p.2:=fun p hp=>(List.mem_append.1 hp).elim (hV p) (fun e=>by simp at e;subst e;exact hbl)
   clear hbl hsome hC2';dsimp only[encP] at hy
   gi_wp2
   refine hR.mono ?_
   rintro e W3 (⟨rfl,hJ3,hk3⟩ | ⟨rfl,hJx3⟩)
   ·gi_wp2
    have hrg3:=hrg2.of_walks hk3
    go_roundw
    case rel=>exact⟨_,cnt2,ps++[(x,bl)],hrg3,by simp;omega,hC2,hV2,by simpa using hJ3⟩
    case measure=>rw[hrg3.left_eq,hrg.left_eq];exact hlt
   ·gi_wp2
    refine bodyPost_ret (results_none rfl _ _ _) rfl ?_
    exact⟨⟨_,rfl⟩,.inr ⟨_,trivial,hJx3⟩⟩
theorem keys1_in (F:Fence) (n:Nat) (h8:F.fn 142) (hro:F.round=none) (hn:1≤n) (l Bm b:Nat) (fs:List (Nm×Nat)) (J Jx:List Nm→World→Prop)
  (hY:∀ pre x W,x∈fs.map (·.1)→J pre W→pre.length<fs.length→YieldAt F (n-1) Tryz.prog l #[encStr x] W fun e W'=>
   (e = .returned (.bool true)∧J (pre++[x]) W'∧KeepsWalks W W')∨(e = .returned (.bool false)∧Jx (pre++[x]) W'))
  (W:World) (hJ:AbidesFrom W.heap.size J) (hm:W.cell? ⟨Bm,0,none⟩=some (.map (some b))) (hmap:MapAt W b fs) (h0:J [] W) :
  CallsIn F n Tryz.prog 142 #[.func (.yield l) #[] #[],.pointer (some ⟨Bm,0,none⟩)] W fun e W'=>(∃ v,e = .returned v)∧
   ((∃ xs,xs.Perm (fs.map (·.1))∧J xs W')∨(∃ pre,True∧Jx pre W')):=by
 obtain⟨hnd,D0,hown,hsz,hD⟩:=hmap
 refine callsIn_of_wp Tryz.func142 rfl h8 ?_ hro
 simp only[Tryz.ntmps142,List.size_toArray,List.length_cons,List.length_nil,Nat.reduceAdd,Nat.reduceSub,Array.replicate_succ,Array.replicate_zero,List.push_toArray,List.append_toArray,List.nil_append,List.cons_append]
 gi_wp2_with (first
  | (gi_at_range;refine wpListIn_range_own _ rfl _ 105 rfl 9 108 keyedS Tryz.underlying105 _ b fs.length _ rfl hown ?_;intro w0 hrg0 hg0 hs0)
  | gi_in)
 go_frame
 gi_loopw [3] (fun _ wr=>∃ (left:Lit→Bool) (cnt:Nat) (ps:List (Nm×Nat)),wr.ranges Tryz.prog 9 ptrElem b W.heap.size fs.length D0 left cnt∧ps.length+cnt≤Maps.size D0∧Collected D0 left (ps.map (·.1))∧(∀ p∈ps,fs.lookup p.1=some p.2)∧J (ps.map (·.1)) wr)
  (fun _ wr=>wr.rangeLeft b W.heap.size)
 case atStart=>
  exact⟨_,_,[],hrg0,by simp,Collected.start D0,by simp,hJ [] W w0 none h0 hg0 (fun r e=>by cases e)⟩
 case round=>
  obtain⟨left,cnt,ps,hrg,hcs,hC,hV,hJs⟩:=hrel
  gi_wp2_with (first
   | (gi_at_next;refine wpListIn_next_ranges _ rfl _ rfl 9 keyedS ptrElem encStr ptrOf (fun key kl hk=>by obtain⟨x,hx,_⟩:=Maps.keyOf_str Tryz.underlying9 hk;exact⟨x,hx⟩) (fun v y hv=>by unfold ptrElem at hv;split at hv;exact⟨none,rfl⟩;exact⟨some _,rfl⟩;cases hv) b W.heap.size fs.length _ _ _ rfl hrg ?_ ?_)
   | gi_in)
  ·
   intro hc0 hl0;gi_wp2
   go_end0
   refine⟨⟨_,rfl⟩,.inl ⟨_,(pairs_perm hC.1 hnd hV fun x=>?_).map _,hJs⟩⟩
   rw[←(hD x).2]
   exact⟨fun h=>((hC.2 x).1 h).1,fun h=>by rw[hC.2 x,hl0];exact⟨h,by simp⟩⟩
  ·
   intro x c kl yd yp w2 cnt2 hkey hlk hv hat hrg2 hlt hg2 hs2 hen;obtain⟨x',ex,rfl,_⟩:=Maps.keyOf_str Tryz.underlying9 hkey
   obtain rfl:x=x':=encStr_inj ex
   have hC2':=hC.step hlk hat
   have hc:fs.lookup x=c:=by
    have h1:=hat .nil
    rw[(hD x).1] at h1
    rw[ptrElem_of] at hv;have h2:datOf c=yd:=by simpa using congrArg (fun z=>z.map (·.1)) hv
    exact datOf_inj (h1.trans h2.symm)
   have hsome:(fs.lookup x).isSome=true:=by
    rw[←(hD x).2]
    exact ((hC2'.2 x).1 (by simp)).1
   obtain⟨bl,hbl⟩:∃ bl,fs.lookup x=some bl:=Option.isSome_iff_exists.1 hsome
   rw[hbl] at hc;subst hc;have hJ2:J (ps.map (·.1)) w2:=hJ _ wr w2 (some W.heap.size) hJs hg2 (fun r e=>by cases e;exact⟨Nat.le_refl _,hrg.iter_walk⟩)
   obtain⟨fn,tmps,assign,body,hy,hR⟩:=hY (ps.map (·.1)) x w2 (List.mem_map.2 ⟨(x,bl),lookup_some hbl,rfl⟩) hJ2 (by simp;omega)
   clear hs2;have hC2:Collected D0 (fun z=>left z && !z.sameKey (.string x)) ((ps++[(x,bl)]).map (·.1)):=by simpa using hC2'
   have hV2:∀ p∈ps++[(x,bl)],fs.lookup p.1=some p.2:=fun p hp=>(List.mem_append.1 hp).elim (hV p) (fun e=>by simp at e;subst e;exact hbl)
   clear hbl hsome hC2';gi_wp2
   refine hR.mono ?_
   rintro e W3 (⟨rfl,hJ3,hk3⟩ | ⟨rfl,hJx3⟩)
   ·gi_wp2
    have hrg3:=hrg2.of_walks hk3
    go_roundw
    case rel=>exact⟨_,cnt2,ps++[(x,bl)],hrg3,by simp;omega,hC2,hV2,by simpa using hJ3⟩
    case measure=>rw[hrg3.left_eq,hrg.left_eq];exact hlt
   ·gi_wp2
    refine bodyPost_ret (results_none rfl _ _ _) rfl ?_
    exact⟨⟨_,rfl⟩,.inr ⟨_,trivial,hJx3⟩⟩
theorem mvalues_in (F:Fence) (n:Nat) (hf:F.fn 107) (hro:F.round=none) (mb:Option Nat) (w:World) :
  CallsIn F n Tryz.prog 107 #[.map mb] w fun e w'=>e = .returned (.func (.func 164) #[] #[.pointer (some ⟨w.heap.size,0,none⟩)])∧w'=w.alloc (.cells #[.map mb] 105):=by
 refine callsIn_of_wp Tryz.func107 rfl hf ?_ hro
 simp only[Tryz.ntmps107,List.size_toArray,List.length_cons,List.length_nil,Nat.reduceAdd,Nat.reduceSub,Array.replicate_succ,Array.replicate_zero,List.push_toArray,List.append_toArray,List.nil_append,List.cons_append]
 gi_wp2
 go_ret;exact⟨rfl,rfl⟩
theorem MapAt.below {w W:World}{mb:Nat}{fs:List (Nm×Nat)}(h:MapAt w mb fs)(hW:Below w.heap.size w W):MapAt W mb fs:=
 h.chg (Chg.of_below hW Nil) (fun h=>h)
theorem stops_of {β:Type}{P:Program}{F:Fence}{n:Nat}{g:Nat}{lb:Array Value}{enc:β→Value}{N:Nat}{w:World} (M:β→Prop) (S:List β→Prop)
  (h:∀ (l:Nat) (J Jx:List β→World→Prop) (W:World),Below w.heap.size w W→AbidesFrom W.heap.size J→
   (∀ pre x W1,M x→J pre W1→pre.length<N→YieldAt F (n-1) P l #[enc x] W1 fun e W'=>(e = .returned (.bool true)∧J (pre++[x]) W'∧KeepsWalks W1 W')∨(e = .returned (.bool false)∧Jx (pre++[x]) W'))→J [] W→
   CallsIn F n P g (#[.func (.yield l) #[] #[]]++lb) W fun e W'=>(∃ v,e = .returned v)∧((∃ xs,S xs∧J xs W')∨(∃ pre,True∧Jx pre W'))) :
  SeqStops F n P g lb (fun x:{b // M b}=>enc x.1) (fun xs=>S (xs.map (·.1))) (fun _=>True) N w:=fun l J Jx W hW hJ _ hY h0=>by
 refine (h l (fun q W=>∃ l',l'.map (·.1)=q∧J l' W) (fun q W=>∃ l',l'.map (·.1)=q∧Jx l' W) W hW ?_ ?_ ⟨[],rfl,h0⟩).mono ?_
 ·rintro s X Y row ⟨l',e,hj⟩ hg hr
  exact⟨l',e,hJ l' X Y row hj hg hr⟩
 ·rintro pre x W1 hx ⟨l',rfl,hj⟩ hlt
  obtain⟨fn,tmps,assign,body,hy,hR⟩:=hY l' ⟨x,hx⟩ W1 hj (by simpa using hlt)
  refine⟨fn,tmps,assign,body,hy,hR.mono ?_⟩
  rintro e W' (⟨h1,h2,h3⟩ | ⟨h1,h2⟩)
  ·exact .inl ⟨h1,⟨_,by simp,h2⟩,h3⟩
  ·exact .inr ⟨h1,_,by simp,h2⟩
 ·rintro e W' ⟨hv,⟨xs,hs,l',rfl,hj⟩ | ⟨pre,_,l',_,hj⟩⟩
  ·exact⟨hv,.inl ⟨l',hs,hj⟩⟩
  ·exact⟨hv,.inr ⟨l',trivial,hj⟩⟩
theorem values_stops (F:Fence) (n:Nat)(h7:F.fn 164)(hro:F.round=none)(hn:1≤n) (Bm b:Nat) (fs:List (Nm×Nat)) (w:World)(hBm:Bm<w.heap.size)
  (hm:w.cell? ⟨Bm,0,none⟩=some (.map (some b)))(hmap:MapAt w b fs) :
  SeqStops F n Tryz.prog 164 #[.pointer (some ⟨Bm,0,none⟩)] (fun x:{b // b∈fs.map (·.2)}=>encP x.1) (fun xs=>(xs.map (·.1)).Perm (fs.map (·.2))) (fun _=>True) fs.length w:=
 stops_of (β:=Nat) (enc:=encP) (fun b=>b∈fs.map (·.2)) (fun xs=>xs.Perm (fs.map (·.2))) fun l J Jx W hW hJ hY h0=>by
  have e:(#[Value.func (.yield l) #[] #[]] ++ #[Value.pointer (some ⟨Bm,0,none⟩)]:Array Value) = #[.func (.yield l) #[] #[],.pointer (some ⟨Bm,0,none⟩)]:=rfl
  rw[e];exact values1_in F n h7 hro hn l Bm b fs J Jx hY W hJ ((hW.cell (p:=⟨Bm,0,none⟩) hBm).trans hm) (hmap.below hW) h0
theorem keys_stops (F:Fence) (n:Nat)(h7:F.fn 142)(hro:F.round=none)(hn:1≤n) (Bm b:Nat) (fs:List (Nm×Nat)) (w:World)(hBm:Bm<w.heap.size)
  (hm:w.cell? ⟨Bm,0,none⟩=some (.map (some b)))(hmap:MapAt w b fs) :
  SeqStops F n Tryz.prog 142 #[.pointer (some ⟨Bm,0,none⟩)] (fun x:{b // b∈fs.map (·.1)}=>encStr x.1) (fun xs=>(xs.map (·.1)).Perm (fs.map (·.1))) (fun _=>True) fs.length w:=
 stops_of (β:=Nm) (enc:=encStr) (fun b=>b∈fs.map (·.1)) (fun xs=>xs.Perm (fs.map (·.1))) fun l J Jx W hW hJ hY h0=>by
  have e:(#[Value.func (.yield l) #[] #[]] ++ #[Value.pointer (some ⟨Bm,0,none⟩)]:Array Value) = #[.func (.yield l) #[] #[],.pointer (some ⟨Bm,0,none⟩)]:=rfl
  rw[e];exact keys1_in F n h7 hro hn l Bm b fs J Jx hY W hJ ((hW.cell (p:=⟨Bm,0,none⟩) hBm).trans hm) (hmap.below hW) h0
theorem mkeys_in (F:Fence) (n:Nat) (hf:F.fn 84) (hro:F.round=none) (mb:Option Nat) (w:World) :
  CallsIn F n Tryz.prog 84 #[.map mb] w fun e w'=>e = .returned (.func (.func 142) #[] #[.pointer (some ⟨w.heap.size,0,none⟩)])∧w'=w.alloc (.cells #[.map mb] 105):=by
 refine callsIn_of_wp Tryz.func84 rfl hf ?_ hro
 simp only[Tryz.ntmps84,List.size_toArray,List.length_cons,List.length_nil,Nat.reduceAdd,Nat.reduceSub,Array.replicate_succ,Array.replicate_zero,List.push_toArray,List.append_toArray,List.nil_append,List.cons_append]
 gi_wp2
 go_ret;exact⟨rfl,rfl⟩
end Go.Proofs.YtobegmcbfgnpnaaGreatDoor
