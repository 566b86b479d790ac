/-
  Opening all partitions on a disk that holds the list alone, plain: it succeeds where there are few. (Of the topics' seat.)
-/
import Derived.Test.YtobegmcbfgnpnaaGreatDoorU43
set_option linter.unusedVariables false
set_option linter.unusedSimpArgs false
set_option maxHeartbeats 0
set_option maxRecDepth 200000
namespace Go.Proofs.YtobegmcbfgnpnaaGreatDoor
open Go.RowKit Go.Lib Go.Shelf
theorem openGo_nil (dir:Nm) (d:Dk):openGo dir noB [] d [] false=(0,d,[],false):=rfl
theorem openLg_fresh {d:Dk}{dir:Nm}{most:Int}{s:Nat}(hl:d.list (dir++[47])=[])(hw:d.left = -1)(hnm:dkName (segName dir s)=true)(hf:d.find (segName dir s)=none)(hfew:d.fs.length≠200) :
  (openLg noB dir most s d).1=0∧(openLg noB dir most s d).2.1=(d.put (segName dir s) ⟨[],0⟩).turn (segName dir s) ⟨[],0⟩:=by
 have hdoes:d.does≠false:=by unfold Dk.does;rw[hw];decide
 have hstep:d.step=d:=by
  cases d
  simp only at hw
  subst hw;rfl
 have hmk:d.make (segName dir s)=(0,d.put (segName dir s) ⟨[],0⟩):=by
  unfold Dk.make;rw[if_neg hdoes,if_neg (by rw[hnm];simp),if_neg (by rw[hf];simp),if_neg hfew,hstep]
 have hsy:(d.put (segName dir s) ⟨[],0⟩).sync (segName dir s)=(0,(d.put (segName dir s) ⟨[],0⟩).turn (segName dir s) ⟨[],0⟩):=by
  unfold Dk.sync Dk.at;have h1:(d.put (segName dir s) ⟨[],0⟩).does≠false:=hdoes
  have h2:(d.put (segName dir s) ⟨[],0⟩).find (segName dir s)=some ⟨[],0⟩:=by rw[find_put,if_pos rfl]
  have h3:(d.put (segName dir s) ⟨[],0⟩).step=d.put (segName dir s) ⟨[],0⟩:=by
   show ({ d.put (segName dir s) ⟨[],0⟩ with left:=stepL d.left }:Dk)=_
   rw[hw];show ({ d.put (segName dir s) ⟨[],0⟩ with left:=-1 }:Dk)=_
   unfold Dk.put;rw[←hw]
  rw[if_neg h1,h2,h3]
  rfl
 have e:openLg noB dir most s d=openMid s d ⟨dir,most,[],0,0,false⟩:=by
  unfold openLg;rw[hl,openGo_nil];rfl
 rw[e];unfold openMid;rw[if_pos rfl]
 have ht:((s:Nat):Int).toNat=s:=rfl
 simp only[ht,hmk,if_true]
 unfold openEnd;have hlast:(Lg.last { dir:=dir,most:=most,segs:=[⟨segName dir s,(s:Int),[],0⟩],start:=0,safe:=0,down:=false:Lg }).name=segName dir s:=rfl
 rw[hlast,hsy];exact⟨rfl,rfl⟩
theorem first_at {c:UInt8}:∀ {a b x y:List UInt8},c ∉ a→c ∉ b→a++c::x=b++c::y→a=b∧x=y
 | [],[],x,y,_,_,e=>⟨rfl,(List.cons.inj e).2⟩
 | [],q::b,x,y,_,h,e=>absurd (List.mem_cons.2 (.inl (List.cons.inj e).1)) h
 | q::a,[],x,y,h,_,e=>absurd (List.mem_cons.2 (.inl (List.cons.inj e).1.symm)) h
 | q::a,r::b,x,y,h1,h2,e=>by
  obtain⟨rfl,e2⟩:=List.cons.inj e
  obtain⟨rfl,e3⟩:=first_at (fun h=>h1 (List.mem_cons_of_mem _ h)) (fun h=>h2 (List.mem_cons_of_mem _ h)) e2
  exact⟨rfl,e3⟩
theorem dec_chars:∀ (u:Nat),∀ b∈decDigits u,b∈digitsC:=by
 intro u;induction u using Nat.strongRecOn with
 | _ u ih=>
  intro b hb;have hone:∀ v,v<10→UInt8.ofNat (48+v)∈digitsC:=by decide
  by_cases h:u<10
  ·rw[dec_one h] at hb
   rw[List.mem_singleton.1 hb]
   exact hone u h
  ·rw[dec_step h] at hb
   rcases List.mem_append.1 hb with hb | hb
   ·exact ih (u / 10) (by omega) b hb
   ·rw[List.mem_singleton.1 hb]
    exact hone (u % 10) (by omega)
theorem dec_inj {u v:Nat}(h:decDigits u=decDigits v):u=v:=by
 have h1:=dec_back u
 rw[h,dec_back v] at h1
 exact (Option.some.inj h1).symm
theorem dir_apart {n m:List UInt8}{k j s:Nat}(hn:(45:UInt8) ∉ n)(hm:(45:UInt8) ∉ m)(h:(dirOf n k++[47]).isPrefixOf (segName (dirOf m j) s)=true):n=m∧k=j:=by
 rw[List.isPrefixOf_iff_prefix] at h;obtain⟨r,hr⟩:=h
 unfold segName dirOf at hr;simp only[List.append_assoc,List.cons_append,List.nil_append] at hr
 obtain⟨rfl,h2⟩:=first_at hn hm hr
 have hd:∀ u:Nat,(47:UInt8) ∉ decDigits u:=fun u hu=>absurd (dec_chars u _ hu) (by decide)
 obtain⟨h3,_⟩:=first_at (hd k) (hd j) h2
 exact⟨rfl,dec_inj h3⟩
theorem lookup_names:∀ {fs:List (Nm×Fl)}{x:Nm}{f:Fl},fs.lookup x=some f→x∈fs.map (·.1)
 | [],x,f,h=>by cases h
 | (a,g)::r,x,f,h=>by
  rw[List.lookup_cons] at h;by_cases hx:x=a
  ·subst hx;exact List.mem_cons_self ..
  ·rw[beq_eq_false_iff_ne.2 hx] at h
   exact List.mem_cons_of_mem _ (lookup_names h)
structure GoodD (D:List (List UInt8×Nat)) (d:Dk):Prop where
 left:d.left = -1
 len:d.fs.length=D.length+1
 names:∀ x∈d.names,x=topicsN∨∃ p∈D,∃ s:Nat,x=segName (dirOf p.1 p.2) s
theorem sortN_nil {l:List Nm}(h:∀ x,x ∉ l):sortN l=[]:=by
 have:l=[]:=List.eq_nil_iff_forall_not_mem.2 h
 rw[this];simp[sortN]
theorem GoodD.list {D:List (List UInt8×Nat)}{d:Dk}(h:GoodD D d)(hD:∀ p∈D,(45:UInt8) ∉ p.1) {n:List UInt8}{k:Nat}(hn:(45:UInt8) ∉ n)(hnew:(n,k) ∉ D):d.list (dirOf n k++[47])=[]:=by
 refine sortN_nil fun x hx=>?_
 rw[List.mem_filter] at hx;rcases h.names x hx.1 with rfl | ⟨p,hp,s,rfl⟩
 ·exact topics_no hx.2 rfl
 ·obtain⟨h1,h2⟩:=dir_apart hn (hD p hp) hx.2
  refine hnew ?_
  rw[h1,h2];exact hp
theorem seg_in (dir:Nm) (s:Nat):(dir++[47]).isPrefixOf (segName dir s)=true:=by
 rw[List.isPrefixOf_iff_prefix];unfold segName;exact⟨pad s++dotlog,by simp⟩
theorem GoodD.find {D:List (List UInt8×Nat)}{d:Dk}(h:GoodD D d)(hD:∀ p∈D,(45:UInt8) ∉ p.1) {n:List UInt8}{k:Nat}(hn:(45:UInt8) ∉ n)(hnew:(n,k) ∉ D) (s:Nat):d.find (segName (dirOf n k) s)=none:=by
 cases hf:d.find (segName (dirOf n k) s) with
 | none=>rfl
 | some f=>
  have h1:segName (dirOf n k) s∈d.names:=by
   unfold Dk.find at hf;unfold Dk.names;exact lookup_names hf
  have h2:segName (dirOf n k) s∈d.list (dirOf n k++[47]):=list_mem.2 ⟨h1,seg_in _ _⟩
  rw[h.list hD hn hnew] at h2
  cases h2
theorem no45 {n:List UInt8}(h:nameOk 10 cutTopic n=true):(45:UInt8) ∉ n:=fun hx=>absurd (topic_chars h _ hx) (by decide)
theorem seg_named {n:List UInt8}(h:nameOk 10 cutTopic n=true) {k s:Nat}(hk:k≤100000)(hs:s≤1099511627776):dkName (segName (dirOf n k) s)=true:=by
 have hc:∀ b∈segName (dirOf n k) s,b∈cutDisk:=by
  intro b hb;have h1:∀ x∈cutTopic,x∈cutDisk:=by decide
  have h2:∀ x∈digitsC,x∈cutDisk:=by decide
  have h3:∀ x∈dotlog,x∈cutDisk:=by decide
  unfold segName dirOf pad zeros at hb;simp only[List.mem_append,List.mem_cons,List.mem_singleton,List.not_mem_nil,or_false] at hb
  rcases hb with ((((hb | rfl | hb) | rfl) | hb | hb) | hb)
  ·exact h1 b (topic_chars h b hb)
  ·decide
  ·exact h2 b (dec_chars k b hb)
  ·decide
  ·rw[(List.mem_replicate.1 hb).2];decide
  ·exact h2 b (dec_chars s b hb)
  ·exact h3 b hb
 have hl:(segName (dirOf n k) s).length≤40:=by
  have h1:n.length≤10:=by
   unfold nameOk at h;simp only[Bool.and_eq_true,decide_eq_true_eq] at h
   exact h.1.2
  have h2:(decDigits k).length≤6:=dec_len 5 k (by omega)
  have h3:=pad_len hs
  have h4:dotlog.length=4:=rfl
  unfold segName dirOf;simp only[List.length_append,List.length_cons,List.length_nil]
  omega
 unfold dkName nameOk;simp only[Bool.and_eq_true,decide_eq_true_eq,List.all_eq_true,List.contains_iff_mem]
 refine⟨⟨?_,hl⟩,hc⟩
 unfold segName;simp
theorem GoodD.one {D:List (List UInt8×Nat)}{d:Dk}(h:GoodD D d)(hD:∀ p∈D,(45:UInt8) ∉ p.1) {n:List UInt8}{k:Nat}(hn:nameOk 10 cutTopic n=true)(hk:k≤100000)(hnew:(n,k) ∉ D)(hfew:D.length<199) {v:Int}(h0:0≤v)(hv:v≤1099511627776) (most:Int) :
  (openOne most n k v d).1=0∧GoodD ((n,k)::D) (openOne most n k v d).2:=by
 obtain⟨s,rfl⟩:∃ s:Nat,v=(s:Int):=⟨v.toNat,by omega⟩
 have hlist:=h.list hD (no45 hn) hnew
 have hfind:=h.find hD (no45 hn) hnew s
 obtain⟨h1,h2⟩:=openLg_fresh (most:=most) hlist h.left (seg_named hn hk (by omega)) hfind (by rw[h.len];omega)
 have e:openOne most n k s d=((openLg noB (dirOf n k) most s d).1,(openLg noB (dirOf n k) most s d).2.1):=if_neg (by omega)
 rw[e];refine⟨h1,?_⟩
 show GoodD _ (openLg noB (dirOf n k) most s d).2.1
 rw[h2];have hfil:(d.fs.filter fun p=>decide (p.1≠segName (dirOf n k) s))=d.fs:=by
  rw[List.filter_eq_self];intro p hp;rw[decide_eq_true_eq];intro he;obtain⟨f,hf⟩:=look_mem (fs:=d.fs) (x:=segName (dirOf n k) s) (by rw[←he];exact List.mem_map_of_mem hp)
  have hf2:d.find (segName (dirOf n k) s)=some f:=hf
  rw[hfind] at hf2;cases hf2
 have hmap:∀ (l:List (Nm×Fl)) (x:Nm) (f:Fl),(l.map fun p=>if p.1=x then (p.1,f) else p).map (·.1)=l.map (·.1):=by
  intro l x f;rw[List.map_map];refine List.map_congr_left fun p _=>?_
  show (if p.1=x then (p.1,f) else p).1=p.1
  split<;>rfl
 refine⟨h.left,?_,fun x hx=>?_⟩
 ·unfold Dk.turn Dk.put;rw[hfil];simp[h.len]
 ·unfold Dk.names Dk.turn Dk.put at hx;rw[hfil] at hx;simp only[hmap] at hx
  rw[List.map_append,List.mem_append] at hx;rcases hx with hx | hx
  ·rcases h.names x hx with hx | ⟨p,hp,hx⟩
   ·exact .inl hx
   ·exact .inr ⟨p,List.mem_cons_of_mem _ hp,hx⟩
  ·rw[List.map_cons,List.map_nil,List.mem_singleton] at hx;exact .inr ⟨(n,k),List.mem_cons_self ..,s,hx⟩
theorem GoodD.parts {n:List UInt8}(hn:nameOk 10 cutTopic n=true) (most:Int):∀ (l:List Int) (k:Nat) (D:List (List UInt8×Nat)) (d:Dk),GoodD D d→(∀ p∈D,(45:UInt8) ∉ p.1)→(∀ j,k≤j→(n,j) ∉ D)→k+l.length≤1000→D.length+l.length<199→(∀ v∈l,0≤v∧v≤1099511627776)→
  (partsGo most n l k d).1=0∧∃ D',GoodD D' (partsGo most n l k d).2∧D'.length=D.length+l.length∧∀ p∈D',p∈D∨p.1=n
 | [],k,D,d,h,_,_,_,_,_=>⟨rfl,D,h,rfl,fun p hp=>.inl hp⟩
 | v::r,k,D,d,h,hD,hnew,hk,hfew,hv=>by
  simp only[List.length_cons] at hk hfew
  obtain⟨h1,h2⟩:=h.one hD hn (k:=k) (by omega) (hnew k (Nat.le_refl _)) (by omega) (hv v (List.mem_cons_self ..)).1 (hv v (List.mem_cons_self ..)).2 most
  have hD2:∀ p∈(n,k)::D,(45:UInt8) ∉ p.1:=fun p hp=>by
   rcases List.mem_cons.1 hp with rfl | hp
   ·exact no45 hn
   ·exact hD p hp
  have hnew2:∀ j,k+1≤j→(n,j) ∉ (n,k)::D:=fun j hj hm=>by
   rcases List.mem_cons.1 hm with he | hm
   ·have:=congrArg Prod.snd he
    simp only at this
    omega
   ·exact hnew j (by omega) hm
  obtain⟨h3,D',h4,h5,h6⟩:=GoodD.parts hn most r (k+1) ((n,k)::D) _ h2 hD2 hnew2 (by omega) (by simp only[List.length_cons];omega) (fun u hu=>hv u (List.mem_cons_of_mem _ hu))
  have e:partsGo most n (v::r) k d=partsGo most n r (k+1) (openOne most n k v d).2:=if_pos h1
  rw[e];refine⟨h3,D',h4,by rw[h5];simp only[List.length_cons];omega,fun p hp=>?_⟩
  rcases h6 p hp with hp | hp
  ·rcases List.mem_cons.1 hp with rfl | hp
   ·exact .inr rfl
   ·exact .inl hp
  ·exact .inr hp
theorem GoodD.tops (most:Int):∀ (ts:List Tp) (D:List (List UInt8×Nat)) (d:Dk),GoodD D d→(∀ p∈D,(45:UInt8) ∉ p.1)→(∀ t∈ts,nameOk 10 cutTopic t.name=true∧t.starts.length≤20∧∀ v∈t.starts,0≤v∧v≤1099511627776)→
  (∀ t∈ts,∀ p∈D,p.1≠t.name)→ts.Pairwise (fun a b=>a.name≠b.name)→D.length+20*ts.length<199→(topsGo most ts d).1=0
 | [],D,d,_,_,_,_,_,_=>rfl
 | t::r,D,d,h,hD,hts,hap,hpw,hfew=>by
  simp only[List.length_cons] at hfew
  obtain⟨hn,hl,hv⟩:=hts t (List.mem_cons_self ..)
  obtain⟨h1,D',h2,h3,h4⟩:=GoodD.parts hn most t.starts 0 D d h hD (fun j _ hm=>hap t (List.mem_cons_self ..) _ hm rfl) (by omega) (by omega) hv
  have e:topsGo most (t::r) d=topsGo most r (partsGo most t.name t.starts 0 d).2:=if_pos h1
  rw[e];refine GoodD.tops most r D' _ h2 (fun p hp=>?_) (fun u hu=>hts u (List.mem_cons_of_mem _ hu)) (fun u hu p hp=>?_) (List.pairwise_cons.1 hpw).2 (by omega)
  ·rcases h4 p hp with hp | hp
   ·exact hD p hp
   ·rw[hp];exact no45 hn
  ·rcases h4 p hp with hp | hp
   ·exact hap u (List.mem_cons_of_mem _ hu) p hp
   ·rw[hp];exact (List.pairwise_cons.1 hpw).1 u hu
def listD (text:List UInt8):Dk:=⟨[(topicsN,⟨text,0⟩)],1048576,-1⟩
theorem list_made:(Dk.fresh 1048576).make topicsN=(0,listD []):=rfl
theorem list_added {text:List UInt8}(h:text.length≤2000):(listD []).add topicsN text=(0,listD text):=by
 have h1:¬1048576<text.length:=by omega
 unfold Dk.add Dk.at;simp[listD,Dk.find,Dk.step,Dk.turn,Dk.used,Dk.does,didB,stepL,h1,List.lookup_cons]
theorem list_find (text:List UInt8):(listD text).find topicsN=some ⟨text,0⟩:=rfl
theorem list_empty (text:List UInt8):EmptyD (listD text):=fun x f hf hx=>by
 unfold Dk.find listD at hf;rw[List.lookup_cons,beq_eq_false_iff_ne.2 hx] at hf
 cases hf
theorem list_good (text:List UInt8):GoodD [] (listD text):=⟨rfl,rfl,fun x hx=>.inl (List.mem_singleton.1 hx)⟩
theorem list_list (text:List UInt8):(listD text).list []=[topicsN]:=by
 unfold Dk.list Dk.names listD sortN;simp
end Go.Proofs.YtobegmcbfgnpnaaGreatDoor
