/-
  What becomes of Forget, Retain and Compact on a disk that may fail. Plain. (Of the logs' seat.)
-/
import Derived.Test.YtdjmifaidgbbaaaGreatDoorT33
set_option linter.unusedVariables false
set_option linter.unusedSimpArgs false
set_option maxHeartbeats 0
set_option maxRecDepth 200000
namespace Go.Proofs.YtdjmifaidgbbaaaGreatDoor
open Go.RowKit Go.Lib
structure DropR (d:Dk) (g:Lg) (ys:List SgB) (z:SgB) (k:Nat) (d':Dk) (g2:Lg):Prop where
 kle:k≤ys.length
 up:Up0 d' g2 (ys.drop k) z
 dir:g2.dir=g.dir
 safe:g2.safe=g.safe
 stop:g2.stop=g.stop
 only:OnlyF d (ys++[z])→OnlyF d' (ys.drop k++[z])
 used:d'.used≤d.used
 files:d'.fs.length≤d.fs.length
 room:d'.room=d.room
 len:g2.segs.length≤g.segs.length
theorem DropR.refl {d:Dk}{g:Lg}{ys:List SgB}{z:SgB}(h:Up0 d g ys z):DropR d g ys z 0 d g:=⟨Nat.zero_le _,h,rfl,rfl,rfl,fun h=>h,Nat.le_refl _,Nat.le_refl _,rfl,Nat.le_refl _⟩
theorem DropR.trans {d d1 d2:Dk}{g g1 g2:Lg}{ys:List SgB}{z:SgB}{k j:Nat}(h:DropR d g ys z k d1 g1)(h2:DropR d1 g1 (ys.drop k) z j d2 g2):DropR d g ys z (k+j) d2 g2:=by
 have e:(ys.drop k).drop j=ys.drop (k+j):=by rw[List.drop_drop]
 have hk:=h2.kle
 rw[List.length_drop] at hk;have:=h.kle
 refine⟨by omega,e ▸ h2.up,by rw[h2.dir,h.dir],by rw[h2.safe,h.safe],by rw[h2.stop,h.stop],fun hO=>e ▸ h2.only (h.only hO),Nat.le_trans h2.used h.used,Nat.le_trans h2.files h.files,by rw[h2.room,h.room],Nat.le_trans h2.len h.len⟩
theorem first_gone {d:Dk}{g:Lg}{y0:SgB}{r:List SgB}{z:SgB}(h:Up0 d g (y0::r) z) {x1:SgB}{r1:List SgB}(hx:r++[z]=x1::r1)(hb:x1.1.base≤g.start)(h14:(d.remove y0.1.name).1≠14) :
  (d.remove y0.1.name).1=0∧DropR d g (y0::r) z 1 (d.remove y0.1.name).2 { g with segs:=x1.1::r1.map (·.1) }:=by
 have hok:LgOk d.free g (y0::x1::r1):=by
  have h1:=h.ok.freed
  rw[List.cons_append,hx] at h1;exact h1
 obtain⟨e1,e2⟩:=drop_step hok rfl hb
 have hfr:=remove_free h14
 rw[e1] at hfr;have h0:(d.remove y0.1.name).1=0:=(Prod.mk.inj hfr).1.symm
 have ed:d.free.del y0.1.name=(d.remove y0.1.name).2.free:=(Prod.mk.inj hfr).2
 rw[ed] at e2;have hok':(d.remove y0.1.name).2.Ok:=remove_keeps h.ok.ok _
 have e3:=e2.unfree hok'
 rw[List.map_cons] at e3;obtain⟨f,hf,hd⟩:=remove_done h0
 have hfd:∀ y,(d.remove y0.1.name).2.find y=if y=y0.1.name then none else d.find y:=fun y=>by rw[hd,find_del,step_find]
 have hne:∀ x∈r++[z],x.1.name≠y0.1.name:=fun x hx' e=>by
  have h1:=h.ok.each y0 (by simp)
  have h2:=h.ok.each x (by rw[List.cons_append];exact List.mem_cons_of_mem _ hx')
  rw[h1.nm,h2.nm] at e;have h3:=segName_inj (by have:=h2.hi;omega) (by have:=h1.hi;omega) e
  have h4:=(lined_distinct (ys:=[]) (x:=y0) (r:=r++[z]) h.ok.of h.ok.line).2 x hx'
  have:=h1.lo
  have:=h2.lo
  omega
 have hsg:g.segs=y0.1::x1.1::r1.map (·.1):=by
  have h1:=h.ok.segs
  rw[List.cons_append,hx] at h1;exact h1
 refine⟨h0,⟨by simp,⟨?_,h.up,⟨fun y hy=>?_,?_⟩⟩,rfl,rfl,stop_tail g y0.1 x1.1 (r1.map (·.1)) hsg,fun hO y hy=>?_,?_,?_,?_,?_⟩⟩
 ·show LgOk _ _ (r++[z])
  rw[hx];exact e3
 ·unfold AllSafe;rw[hfd,if_neg (hne y (List.mem_append_left _ hy))]
  exact h.sf.all y (List.mem_cons_of_mem _ hy)
 ·obtain⟨sf,m,k1,k2⟩:=h.sf.last
  exact⟨sf,m,by rw[hfd,if_neg (hne z (by simp))];exact k1,k2⟩
 ·rw[hfd] at hy;split at hy
  ·cases hy
  ·next hn=>
   obtain⟨x,hx',he⟩:=hO y hy
   rcases List.mem_cons.1 hx' with rfl | hx'
   ·exact absurd he hn
   ·exact⟨x,hx',he⟩
 ·rw[hd];exact used_filter d.step y0.1.name
 ·rw[hd];exact del_len d.step y0.1.name
 ·rw[hd];rfl
 ·rw[hsg];simp
theorem drop_up:∀ (ys:List SgB) {d:Dk}{g:Lg}{z:SgB},Up0 d g ys z→∃ k d' g2,DropR d g ys z k d' g2∧g2.start=g.start∧g2.most=g.most∧(dropLg d g=(0,d',g2)∨dropLg d g=(14,d',{ g2 with down:=true }))
 | [],d,g,z,h=>by
  refine⟨0,d,g,DropR.refl h,rfl,rfl,.inl (drop_stay ?_)⟩
  unfold Lg.goes;rw[h.ok.segs];rfl
 | y0::r,d,g,z,h=>by
  obtain⟨x1,r1,hx⟩:∃ x1 r1,r++[z]=x1::r1:=by
   cases r with
   | nil=>exact⟨z,[],rfl⟩
   | cons a b=>exact⟨a,b++[z],rfl⟩
  have hsg:g.segs=y0.1::x1.1::r1.map (·.1):=by
   have h1:=h.ok.segs
   rw[List.cons_append,hx] at h1;exact h1
  by_cases hb:x1.1.base≤g.start
  ·rw[drop_go hsg hb]
   by_cases h14:(d.remove y0.1.name).1=14
   ·refine⟨0,d,g,DropR.refl h,rfl,rfl,.inr ?_⟩
    rw[remove_14 h14,if_neg (by simp)]
    rfl
   ·obtain⟨h0,h1⟩:=first_gone h hx hb h14
    rw[if_pos h0]
    obtain⟨k,d',g2,k1,k2,k3,k4⟩:=drop_up r h1.up
    exact⟨1+k,d',g2,h1.trans k1,k2,k3,k4⟩
  ·refine⟨0,d,g,DropR.refl h,rfl,rfl,.inl (drop_stay ?_)⟩
   unfold Lg.goes;rw[hsg];exact decide_eq_false hb
theorem Up0.restart {d:Dk}{g:Lg}{ys:List SgB}{z:SgB}(h:Up0 d g ys z) {m:Int}(h1:g.start≤m)(h2:m≤g.stop):Up0 d { g with start:=m } ys z:=
 ⟨h.ok.restart m (fun x hx=>Int.le_trans (h.ok.lo x hx) h1) h2,h.up,h.sf⟩
theorem DropR.restarted {d d':Dk}{g g2:Lg}{ys:List SgB}{z:SgB}{k:Nat}{m:Int}(h:DropR d { g with start:=m } ys z k d' g2):DropR d g ys z k d' g2:=⟨h.kle,h.up,h.dir,h.safe,h.stop,h.only,h.used,h.files,h.room,h.len⟩
theorem forget_up {d:Dk}{g:Lg}{ys:List SgB}{z:SgB}(h:Up0 d g ys z) {tg:Int}(h0:0≤tg)(h1:tg≤g.stop):∃ k d' g2,DropR d g ys z k d' g2∧g2.most=g.most∧(forgetLg tg d g=(0,d',g2)∨forgetLg tg d g=(14,d',{ g2 with down:=true })):=by
 have hnd:¬g.down=true:=by rw[h.up];simp
 have hm:=h.ok.hi
 obtain⟨k,d',g2,k1,_,k3,k4⟩:=drop_up ys (h.restart (m:=max g.start tg) (by omega) (by omega))
 refine⟨k,d',g2,k1.restarted,k3,?_⟩
 unfold forgetLg;rw[if_neg hnd,if_neg (by omega)]
 exact k4
theorem ret_up {now age bytes:Int}:∀ (f n:Nat) (ys:List SgB) {d:Dk}{g:Lg}{z:SgB},Up0 d g ys z→∃ k d' g2 n',DropR d g ys z k d' g2∧g2.most=g.most∧(retGo now age bytes f n d g=(0,n',d',g2)∨retGo now age bytes f n d g=(14,n',d',{ g2 with down:=true }))
 | 0,n,ys,d,g,z,h=>⟨0,d,g,n,DropR.refl h,rfl,.inl rfl⟩
 | f+1,n,[],d,g,z,h=>⟨0,d,g,n,DropR.refl h,rfl,.inl (ret_one (by rw[h.ok.segs];simp))⟩
 | f+1,n,y0::r,d,g,z,h=>by
  obtain⟨x1,r1,hx⟩:∃ x1 r1,r++[z]=x1::r1:=by
   cases r with
   | nil=>exact⟨z,[],rfl⟩
   | cons a b=>exact⟨a,b++[z],rfl⟩
  have hsg:g.segs=y0.1::x1.1::r1.map (·.1):=by
   have h1:=h.ok.segs
   rw[List.cons_append,hx] at h1;exact h1
  rw[ret_two hsg]
  by_cases hc:(oldSg now age y0.1||muchSg bytes g.segs y0.1)=true
  ·rw[if_pos hc]
   have hx1:x1∈y0::r++[z]:=by rw[List.cons_append,hx];simp
   have hstop:x1.1.base≤g.stop:=by
    have h1:=h.ok.next_le x1 hx1
    have h2:=(h.ok.of x1 hx1).base_next
    omega
   have hm:=h.ok.hi
   obtain⟨k,d',g2,k1,_,k3,k4⟩:=drop_up (y0::r) (h.restart (m:=max g.start x1.1.base) (by omega) (by omega))
   rcases k4 with k4 | k4
   ·rw[k4,if_pos rfl]
    obtain⟨j,d2,g3,n',j1,j2,j3⟩:=ret_up (now:=now) (age:=age) (bytes:=bytes) f (n+1) ((y0::r).drop k) k1.up
    exact⟨k+j,d2,g3,n',k1.restarted.trans j1,by rw[j2,k3],j3⟩
   ·rw[k4,if_neg (by simp)]
    exact⟨k,d',g2,n,k1.restarted,k3,.inr rfl⟩
  ·rw[if_neg hc]
   exact⟨0,d,g,n,DropR.refl h,rfl,.inl rfl⟩
theorem at_room {d:Dk}{x:Nm}{g:Fl→Nat×(Dk→Dk)}(hg:∀ f e,((g f).2 e).room=e.room):(d.at x g).2.room=d.room:=by
 unfold Dk.at;split
 ·rfl
 ·cases d.find x with
  | none=>rfl
  | some f=>exact hg f d.step
theorem make_room (d:Dk) (x:Nm):(d.make x).2.room=d.room:=by
 unfold Dk.make;split
 ·rfl
 ·split
  ·rfl
  ·split
   ·rfl
   ·split<;>rfl
theorem add_room (d:Dk) (x:Nm) (b:List UInt8):(d.add x b).2.room=d.room:=at_room fun f e=>by by_cases hr:d.room<d.used+b.length<;>simp only[hr,if_true,if_false]<;>rfl
theorem sync_room (d:Dk) (x:Nm):(d.sync x).2.room=d.room:=at_room fun f e=>rfl
theorem remove_room (d:Dk) (x:Nm):(d.remove x).2.room=d.room:=at_room fun f e=>rfl
theorem rename_room (d:Dk) (x y:Nm):(d.rename x y).2.room=d.room:=at_room fun f e=>by by_cases hr:dkName y=false<;>simp only[hr,if_true,if_false]<;>rfl
theorem addSg_room (d:Dk) (g:Sg) (base en:Int) (rs:List Rec):(addSg d g base en rs).2.1.room=d.room:=by
 unfold addSg;split
 ·rfl
 ·split
  ·rfl
  ·split<;>exact add_room _ _ _
theorem rew2_room (g:Sg):∀ (l:List Bt) (d:Dk) (gt:Sg),(rew2 d g gt l).2.1.room=d.room
 | [],d,gt=>by
  show (rew3 d g gt).2.1.room=_
  unfold rew3;split
  ·unfold rew4;split
   ·rw[rename_room,sync_room]
   ·simp only
    rw[remove_room,rename_room,sync_room]
  ·simp only
   rw[remove_room,sync_room]
 | b::l,d,gt=>by
  have e1:rew2 d g gt (b::l)=if (addSg d gt b.base b.en b.rs).1=0 then rew2 (addSg d gt b.base b.en b.rs).2.1 g (addSg d gt b.base b.en b.rs).2.2 l else ((addSg d gt b.base b.en b.rs).1,((addSg d gt b.base b.en b.rs).2.1.remove gt.name).2,g):=rfl
  rw[e1];split
  ·rw[rew2_room g l,addSg_room]
  ·simp only
   rw[remove_room,addSg_room]
theorem rew_room (d:Dk) (g:Sg) (nm:Nm) (l:List Bt):(rewL d g nm l).2.1.room=d.room:=by
 have h0:(rew0 d nm).2.room=d.room:=by
  unfold rew0;split
  ·exact remove_room _ _
  ·rfl
 unfold rewL;split
 ·unfold rew1;split
  ·rw[rew2_room,make_room,h0]
  ·simp only
   rw[make_room,h0]
 ·exact h0
theorem rew3_safe {d:Dk}{g gt:Sg}(h:(rew3 d g gt).1=0):∃ b,(rew3 d g gt).2.1.find g.name=some ⟨b,b.length⟩:=by
 unfold rew3 at h ⊢
 by_cases h1:(d.sync gt.name).1=0
 ·rw[if_pos h1] at h ⊢
  unfold rew4 at h ⊢
  by_cases h2:((d.sync gt.name).2.rename gt.name g.name).1=0
  ·rw[if_pos h2]
   obtain⟨f,hf,hd⟩:=rename_done h2
   obtain⟨f0,hf0,hd0⟩:=sync_done h1
   rw[hd0,find_turn,if_pos rfl,step_find,hf0] at hf
   obtain rfl:=Option.some.inj hf
   refine⟨f0.bytes,?_⟩
   show ((d.sync gt.name).2.rename gt.name g.name).2.find g.name=_
   rw[hd,find_put,if_pos rfl]
  ·rw[if_neg h2] at h
   exact absurd h h2
 ·rw[if_neg h1] at h
  exact absurd h h1
theorem rew2_safe {g:Sg}:∀ (l:List Bt) (d:Dk) (gt:Sg),(rew2 d g gt l).1=0→∃ b,(rew2 d g gt l).2.1.find g.name=some ⟨b,b.length⟩
 | [],d,gt,h=>rew3_safe h
 | b::l,d,gt,h=>by
  have e1:rew2 d g gt (b::l)=if (addSg d gt b.base b.en b.rs).1=0 then rew2 (addSg d gt b.base b.en b.rs).2.1 g (addSg d gt b.base b.en b.rs).2.2 l else ((addSg d gt b.base b.en b.rs).1,((addSg d gt b.base b.en b.rs).2.1.remove gt.name).2,g):=rfl
  rw[e1] at h ⊢
  by_cases h1:(addSg d gt b.base b.en b.rs).1=0
  ·rw[if_pos h1] at h ⊢
   exact rew2_safe l _ _ h
  ·rw[if_neg h1] at h
   exact absurd h h1
theorem rew_safe {d:Dk}{g:Sg}{nm:Nm}{l:List Bt}(h:(rewL d g nm l).1=0):∃ b,(rewL d g nm l).2.1.find g.name=some ⟨b,b.length⟩:=by
 unfold rewL at h ⊢
 by_cases h1:(rew0 d nm).1=0
 ·rw[if_pos h1] at h ⊢
  unfold rew1 at h ⊢
  by_cases h2:((rew0 d nm).2.make nm).1=0
  ·rw[if_pos h2] at h ⊢
   exact rew2_safe l _ _ h
  ·rw[if_neg h2] at h
   exact absurd h h2
 ·rw[if_neg h1] at h
  exact absurd h h1
structure CompR (d:Dk) (g:Lg) (d':Dk) (g2:Lg):Prop where
 dir:g2.dir=g.dir
 most:g2.most=g.most
 start:g2.start=g.start
 safe:g2.safe=g.safe
 stop:g2.stop=g.stop
 room:d'.room=d.room
 len:g2.segs.length=g.segs.length
theorem PreF.new {d d':Dk}{dir:Nm}{n:Nat}(h:PreF d dir)(hf:∀ y,y≠segName dir n++dotnew→y≠segName dir n→d'.find y=d.find y):PreF d' dir:=fun y hy=>by
 by_cases e:y=segName dir n++dotnew
 ·rw[e,segName_eq];simp[List.isPrefixOf_iff_prefix]
 ·by_cases e2:y=segName dir n
  ·rw[e2];exact seg_pre _ _
  ·rw[hf y e e2] at hy
   exact h y hy
theorem comp_up {p:Rec→Bool}{z:SgB}:∀ (xs ys:List SgB) {d:Dk}{g:Lg} (n:Nat),Up0 d g (ys++xs) z→d.fs.length<200→2*d.used≤d.room→(∀ n:Nat,n≤1099511627776→dkName (segName g.dir n++dotnew)=true)→PreF d g.dir→
  ∃ xs' d' g2,Partly p xs xs'∧Up0 d' g2 (ys++xs') z∧CompR d g d' g2∧PreF d' g.dir∧
   ((compGo p (xs.map (·.2)) ys.length n d g=(0,n+gonesN p (allBts xs),d',g2)∧allBts xs'=(allBts xs).map (Bt.keep p)∧d'.used≤d.used∧d'.fs.length≤d.fs.length∧(OnlyF d (ys++xs++[z])→OnlyF d' (ys++xs'++[z])))∨
    (∃ n' g',compGo p (xs.map (·.2)) ys.length n d g=(14,n',d',g')∧g'.down=true∧g'.segs.length=g.segs.length))
 | [],ys,d,g,n,h,hf,hu,hkn,hp=>⟨[],d,g,.nil,h,⟨rfl,rfl,rfl,rfl,rfl,rfl,rfl⟩,hp,.inl ⟨rfl,rfl,Nat.le_refl _,Nat.le_refl _,fun h=>h⟩⟩
 | x::xs,ys,d,g,n,h,hf,hu,hkn,hp=>by
  have e0:ys++x::xs++[z]=ys++x::(xs++[z]):=by simp
  have hok:LgOk d g (ys++x::(xs++[z])):=by rw[←e0];exact h.ok
  have hx:=hok.each x (by simp)
  rw[List.map_cons,compGo];by_cases h0:gonesN p x.2=0
  ·rw[if_pos h0]
   obtain⟨xs',d',g2,e1,e2,e3,e4,e5⟩:=comp_up (p:=p) (z:=z) xs (ys++[x]) n (by rw[List.append_assoc];exact h) hf hu hkn hp
   rw[List.length_append,List.length_singleton] at e5;rw[List.append_assoc] at e2;refine⟨x::xs',d',g2,.same e1,e2,e3,e4,?_⟩
   rcases e5 with ⟨f1,f2,f3,f4,f5⟩ | ⟨n',g',f1⟩
   · refine .inl ⟨by rw[f1,allBts_cons,gonesN_append,h0,Nat.zero_add],by rw[allBts_cons,allBts_cons,List.map_append,keep_none h0,f2],f3,f4,?_⟩
     have e6:∀ l:List SgB,ys++[x]++l++[z]=ys++x::l++[z]:=fun l=>by simp
     rw[e6,e6] at f5;exact f5
   · exact .inr ⟨n',g',f1⟩
  ·rw[if_neg h0,hok.segAt]
   have hne:x.1.name++dotnew≠x.1.name:=new_ne _
   have hko:=keep_ok (p:=p) hx.of.ok
   have hkr:rising x.1.base (x.2.map (Bt.keep p)):=rising_map (Bt.keep p) (fun _=>rfl) (fun _=>rfl) hx.of.up
   have hkl:=keep_len (p:=p) x.2
   obtain⟨sf,hfd⟩:=hx.fl
   have hul:(batBs x.2).length≤d.used:=used_le hfd
   have hnk:dkName x.1.name=true:=by rw[hx.nm];exact h.ok.kn _ (by have:=hx.hi;omega)
   have hnk2:dkName (x.1.name++dotnew)=true:=by rw[hx.nm];exact hkn _ (by have:=hx.hi;omega)
   have hdk:=rew_keeps h.ok.ok x.1 (x.1.name++dotnew) (x.2.map (Bt.keep p))
   by_cases j14:(rewL d x.1 (x.1.name++dotnew) (x.2.map (Bt.keep p))).1=14
   · have jn:(rewL d x.1 (x.1.name++dotnew) (x.2.map (Bt.keep p))).1≠0:=by rw[j14];decide
     rw[if_neg jn,j14]
     have hfn:∀ y,y≠x.1.name++dotnew→(rewL d x.1 (x.1.name++dotnew) (x.2.map (Bt.keep p))).2.1.find y=d.find y:=fun y hy=>rew_not hy jn
     have hsn:∀ n:Nat,(rewL d x.1 (x.1.name++dotnew) (x.2.map (Bt.keep p))).2.1.find (segName g.dir n)=d.find (segName g.dir n):=fun n=>hfn _ (by rw[hx.nm];exact seg_new)
     have hse:∀ y∈ys++x::xs++[z],(rewL d x.1 (x.1.name++dotnew) (x.2.map (Bt.keep p))).2.1.find y.1.name=d.find y.1.name:=fun y hy=>by rw[(h.ok.each y hy).nm];exact hsn _
     obtain⟨D,hD⟩:∃ D,(rewL d x.1 (x.1.name++dotnew) (x.2.map (Bt.keep p))).2.1=D:=⟨_,rfl⟩
     have hroom:D.room=d.room:=by
      rw[←hD];exact rew_room _ _ _ _
     rw[hD] at hfn hsn hse hdk ⊢
     refine⟨x::xs,D,g,Partly.refl p _,⟨⟨h.ok.segs,h.ok.ne,fun y hy=>(h.ok.each y hy).other (hse y hy),h.ok.line,fun m hm hs=>h.ok.only m hm (by rw[←hsn m];exact hs),h.ok.kn,hdk,h.ok.lo,h.ok.hi⟩,h.up,h.sf.same hse⟩,⟨rfl,rfl,rfl,rfl,rfl,hroom,rfl⟩,hp.new (n:=x.1.base.toNat) (fun y h1 h2=>hfn y (by rw[hx.nm];exact h1)),.inr ⟨n,_,rfl,rfl,?_⟩⟩
     show (g.segs.set _ _).length=_
     rw[List.length_set]
   · have hsim:=rewL_free d x.1 (x.1.name++dotnew) (x.2.map (Bt.keep p)) j14
     obtain⟨j1,j2,j3,j4,j5,j6⟩:=rew_ok (d:=d.free) hne hko hkr h.ok.ok.free rfl (by show d.used+_≤d.room;omega) hf (l0:=x.2) hx.fl hkl hnk hnk2
     have j0:(rewL d x.1 (x.1.name++dotnew) (x.2.map (Bt.keep p))).1=0:=by rw[←hsim.1];exact j1
     have hfr:=(hsim.2 j0).1
     rw[hfr] at j4 j5 j6
     have hw:=rew_done hne hko hkr j0
     rw[if_pos j0]
     obtain⟨b,hb⟩:=rew_safe j0
     have hnot:∀ y,y≠x.1.name++dotnew→y≠x.1.name→(rewL d x.1 (x.1.name++dotnew) (x.2.map (Bt.keep p))).2.1.find y=d.find y:=fun y h1 h2=>hw.same y h2 h1
     obtain⟨k1,k2⟩:=comp_step hok (by simp) hdk hw
     obtain⟨R,hR⟩:∃ R,rewL d x.1 (x.1.name++dotnew) (x.2.map (Bt.keep p))=R:=⟨_,rfl⟩
     rw[hR] at hw hdk hb hnot k1 k2 j4 j5 j6 ⊢
     have hnm:∀ y∈ys++(xs++[z]),y.1.name≠x.1.name∧y.1.name≠x.1.name++dotnew:=fun y hy=>by
      obtain⟨hd1,hd2⟩:=lined_distinct hok.of hok.line
      have hym:y∈ys++x::(xs++[z]):=by
       rcases List.mem_append.1 hy with hy | hy
       ·exact List.mem_append_left _ hy
       ·exact List.mem_append_right _ (List.mem_cons_of_mem _ hy)
      have hy':=hok.each y hym
      refine⟨fun e=>?_,fun e=>?_⟩
      ·rw[hy'.nm,hx.nm] at e;have h1:=segName_inj (by have:=hy'.hi;omega) (by have:=hx.hi;omega) e
       have:=hy'.lo
       have:=hx.lo
       rcases List.mem_append.1 hy with hy | hy
       ·have:=hd1 y hy;omega
       ·have:=hd2 y hy;omega
      ·rw[hy'.nm,hx.nm] at e;exact seg_new e
     have hupn:Up0 R.2.1 { g with segs:=g.segs.set ys.length R.2.2 } (ys++[(R.2.2,x.2.map (Bt.keep p))]++xs) z:=by
      refine⟨?_,h.up,⟨fun y hy=>?_,?_⟩⟩
      ·have e1:ys++[(R.2.2,x.2.map (Bt.keep p))]++xs++[z]=ys++(R.2.2,x.2.map (Bt.keep p))::(xs++[z]):=by simp
       rw[e1];exact k1
      ·unfold AllSafe;rw[List.append_assoc,List.mem_append,List.singleton_append,List.mem_cons] at hy;rcases hy with hy | rfl | hy
       ·rw[hnot y.1.name (hnm y (by simp[hy])).2 (hnm y (by simp[hy])).1]
        exact h.sf.all y (by simp[hy])
       ·show R.2.1.find R.2.2.name=_
        rw[hw.name];obtain⟨s0,hs0⟩:=hw.has
        rw[hb] at hs0;have hs0:=Option.some.inj hs0
        have h1:b=batBs (x.2.map (Bt.keep p)):=congrArg Fl.bytes hs0
        rw[hb,h1]
       ·rw[hnot y.1.name (hnm y (by simp[hy])).2 (hnm y (by simp[hy])).1]
        exact h.sf.all y (by simp[hy])
      ·obtain⟨s1,m,q1,q2⟩:=h.sf.last
       exact⟨s1,m,by rw[hnot z.1.name (hnm z (by simp)).2 (hnm z (by simp)).1];exact q1,q2⟩
     have hp2:PreF R.2.1 g.dir:=hp.new (n:=x.1.base.toNat) (fun y h1 h2=>hnot y (by rw[hx.nm];exact h1) (by rw[hx.nm];exact h2))
     have r1:R.2.1.room=d.room:=j4
     have r2:R.2.1.used≤d.used:=j5
     have r3:R.2.1.fs.length≤d.fs.length:=j6
     obtain⟨xs',d',g2,e1,e2,e3,e4,e5⟩:=comp_up (p:=p) (z:=z) xs (ys++[(R.2.2,x.2.map (Bt.keep p))]) (n+gonesN p x.2) hupn (by omega) (by rw[r1];omega) hkn hp2
     rw[List.length_append,List.length_singleton] at e5;rw[List.append_assoc] at e2;refine⟨(R.2.2,x.2.map (Bt.keep p))::xs',d',g2,.less (by exact hw.base) rfl e1,e2,⟨e3.dir,e3.most,e3.start,e3.safe,by rw[e3.stop];exact k2,by rw[e3.room,r1],by rw[e3.len];exact List.length_set⟩,e4,?_⟩
     rcases e5 with ⟨f1,f2,f3,f4,f5⟩ | ⟨n',g',f1,f2,f3⟩
     ·refine .inl ⟨by rw[f1,allBts_cons,gonesN_append,Nat.add_assoc],by rw[allBts_cons,allBts_cons,List.map_append,f2],by omega,by omega,fun hO=>?_⟩
      have e6:∀ (a:SgB) (l:List SgB),ys++[a]++l++[z]=ys++a::l++[z]:=fun a l=>by simp
      rw[e6,e6] at f5;refine f5 (fun y hy=>?_)
      by_cases hy1:y=x.1.name
      ·exact⟨(R.2.2,x.2.map (Bt.keep p)),by simp,by rw[hy1];exact hw.name.symm⟩
      ·by_cases hy2:y=x.1.name++dotnew
       ·rw[hy2,hw.gone] at hy;cases hy
       ·rw[hnot y hy2 hy1] at hy
        obtain⟨v,hv,he⟩:=hO y hy
        rw[e0,List.mem_append,List.mem_cons] at hv;rcases hv with hv | rfl | hv
        ·exact⟨v,by simp[hv],he⟩
        ·exact absurd he hy1
        ·exact⟨v,by rw[List.append_assoc,List.cons_append];exact List.mem_append_right _ (List.mem_cons_of_mem _ hv),he⟩
     ·exact .inr ⟨n',g',f1,f2,by rw[f3];exact List.length_set⟩
def sgMk (nm:Nm) (n:Int) (l:List Bt):Sg:=⟨nm,n,plsOf 0 l,(batBs l).length⟩
theorem sgMk_of {nm:Nm}{n:Int}{l:List Bt}(hok:∀ b∈l,b.Ok)(hup:rising n l):SgOf (sgMk nm n l) l:=⟨rfl,rfl,hok,hup⟩
theorem sgMk_eq {g:Sg}{nm:Nm}{n:Int}{l:List Bt}(h:SgOf g l)(hn:g.name=nm)(hb:g.base=n):g=sgMk nm n l:=by
 cases g
 have h1:=h.pls
 have h2:=h.size
 simp only at h1 h2 hn hb
 rw[h1,h2,hn,hb];rfl
structure FdOk (d:Dk) (dir:Nm) (n:Nat) (c:List Bt×List UInt8):Prop where
 hi:n≤1099511627776
 fl:d.has (segName dir n) (batBs c.1++c.2)
 ok:∀ b∈c.1,b.Ok
 up:rising n c.1
 junk:c.2≠[]→decErr (c.2.take 6000)≠0
theorem FdOk.same {d d':Dk}{dir:Nm}{n:Nat}{c:List Bt×List UInt8}(h:FdOk d dir n c)(hf:d'.find (segName dir n)=d.find (segName dir n)):FdOk d' dir n c:=
 ⟨h.hi,by obtain⟨s,hs⟩:=h.fl;exact⟨s,by rw[hf];exact hs⟩,h.ok,h.up,h.junk⟩
def lastNext (ss:List Sg):Int:=((ss[ss.length-1]?).getD sg0).next
def offAt (dir:Nm) (x:Nm) (ss:List Sg) (dn:Bool):Bool:=decide (progBase dir x<0)||(dn||(decide (0<ss.length)&&decide (progBase dir x<lastNext ss)))
def openGo (dir:Nm) (C:Nat→List Bt×List UInt8):List Nm→Dk→List Sg→Bool→Nat×Dk×List Sg×Bool
 | [],d,ss,dn=>(0,d,ss,dn)
 | x::r,d,ss,dn=>
  if offAt dir x ss dn=true then
   (if (d.remove x).1=0 then openGo dir C r (d.remove x).2 ss dn else ((d.remove x).1,(d.remove x).2,ss,dn))
  else
   (if (openR d x (C (progBase dir x).toNat).1 (C (progBase dir x).toNat).2).1=0 then
    openGo dir C r (openR d x (C (progBase dir x).toNat).1 (C (progBase dir x).toNat).2).2 (ss++[sgMk x (progBase dir x) (C (progBase dir x).toNat).1]) (decide (0<(C (progBase dir x).toNat).2.length))
   else ((openR d x (C (progBase dir x).toNat).1 (C (progBase dir x).toNat).2).1,(openR d x (C (progBase dir x).toNat).1 (C (progBase dir x).toNat).2).2,ss,dn))
def openEnd (start:Int) (d:Dk) (g:Lg):Nat×Dk×Lg:=
 if (d.sync g.last.name).1=0 then (0,(d.sync g.last.name).2,{ g with safe:=g.stop,start:=min (max start ((g.segs[0]?).getD sg0).base) g.stop })
 else ((d.sync g.last.name).1,(d.sync g.last.name).2,g)
def openMid (start:Int) (d:Dk) (g:Lg):Nat×Dk×Lg:=
 if g.segs=[] then
  (if (d.make (segName g.dir start.toNat)).1=0 then openEnd start (d.make (segName g.dir start.toNat)).2 { g with segs:=[⟨segName g.dir start.toNat,start,[],0⟩] }
  else ((d.make (segName g.dir start.toNat)).1,(d.make (segName g.dir start.toNat)).2,g))
 else openEnd start d g
def openLg (C:Nat→List Bt×List UInt8) (dir:Nm) (most start:Int) (d:Dk):Nat×Dk×Lg:=
 if (openGo dir C (d.list (dir++[47])) d [] false).1=0 then
  openMid start (openGo dir C (d.list (dir++[47])) d [] false).2.1 ⟨dir,most,(openGo dir C (d.list (dir++[47])) d [] false).2.2.1,0,0,false⟩
 else ((openGo dir C (d.list (dir++[47])) d [] false).1,(openGo dir C (d.list (dir++[47])) d [] false).2.1,⟨dir,most,[],0,0,false⟩)
theorem openR_other {d:Dk}{x y:Nm}(hy:y≠x) (l:List Bt) (junk:List UInt8):(openR d x l junk).2.find y=d.find y:=by
 unfold openR;split
 ·rfl
 ·exact cut_other d hy _
open Go.Maps
theorem LgS.moreV {B:Nat→Prop}{w w1 w':World}{p l s:Nat}{S:Nat→Prop}{sv sv' v:Value}{ss:List (Nat×Value)}{d:Dk}{g:Lg}{sg:Sg}(h:LgS B w p l S sv ss d g)(hs:SgS (BofA B l sv ss) w p s S v d sg)
  (ho:OwnT w1 sv' (ss.map (·.1)++[s]))(hc1:Chg (fun k=>sv.ownBlock=some k) w w1)(hsv:∀ k,sv'.ownBlock=some k→sv.ownBlock=some k∨w.heap.size≤k)(hc2:Chg (fun k=>k=l) w1 w')(hb:Box w' l (({ g with segs:=g.segs++[sg] }:Lg).cells p sv') 99) :
  LgS B w' p l S sv' (ss++[(s,v)]) d { g with segs:=g.segs++[sg] }:=by
 have hc:Chg (fun k=>LHas l sv k) w w':=(hc1.weak fun k hk=>.inl (.inr hk)).trans hc2 (fun k hk=>.inl (.inl hk))
 have hz:=hc.size
 have hlt:=h.lt
 have hsl:∀ k,SHas s v k→k<w.heap.size:=hs.m.lt
 have hsn:∀ k,SHas s v k→¬BofA B l sv ss k:=hs.ml
 have hT:∀ k,THas (ss++[(s,v)]) k→THas ss k∨SHas s v k:=by
  rintro k ⟨x,hx,hk⟩
  rcases List.mem_append.1 hx with hx | hx
  ·exact .inl ⟨x,hx,hk⟩
  ·rw[List.mem_singleton.1 hx] at hk;exact .inr hk
 have hTlt:∀ k,THas (ss++[(s,v)]) k→k<w.heap.size:=fun k hk=>(hT k hk).elim (hlt.2 k) (hsl k)
 have hL:∀ k,LHas l sv' k→LHas l sv k∨w.heap.size≤k:=by
  rintro k (hk | hk)
  ·exact .inl (.inl hk)
  ·exact (hsv k hk).imp .inr id
 have hslv:sv'.ownBlock≠some l:=fun e=>by
  have h1:w'.heap[l]? = _:=hb
  have hll:=hlt.1 l (.inl rfl)
  rcases hsv l e with h2 | h2
  ·have h3:w.heap[l]? = _:=h.c
   rcases h.o.2 with ⟨hv,_⟩ | ⟨b,cap,cur,hv,_,hg,_⟩
   ·rw[hv] at h2;cases h2
   ·rw[hv] at h2;obtain rfl:b=l:=Option.some.inj h2
    rw[h3] at hg;exact absurd (Obj.cells.inj (Option.some.inj hg)).2.1 (by decide)
  ·omega
 refine⟨fun k hk=>Nat.lt_of_lt_of_le (h.lo k hk) hz,hs.a.chg hc (fun k hk hl=>(h.sl k hk).2.1 hl),hb,?_,?_,?_,?_,?_,?_,?_⟩
 ·rw[List.map_append,List.map_singleton];exact ownsRow_chg ho hc2 (fun k hk e=>hslv (e ▸ hk))
 ·rw[List.length_append,List.length_append,h.len];rfl
 ·intro i hi;rw[List.length_append,List.length_singleton] at hi;have hle:=h.len
  by_cases hil:i<ss.length
  ·have h1:=(h.m i hil).chg hc (fun k hk hl=>(h.lb k hl).2 (THas.of hil hk))
   simp only[List.getElem_append_left hil,List.getElem_append_left (show i<g.segs.length by omega)]
   exact h1
  ·obtain rfl:i=ss.length:=by omega
   have h1:=hs.m.chg hc (fun k hk hl=>hsn k hk (.inr (.inl hl)))
   have e1:(ss++[(s,v)])[ss.length]'(by simp)=(s,v):=by simp
   have e2:(g.segs++[sg])[ss.length]'(by simp;omega)=sg:=by simp[hle]
   simp only[e1,e2]
   exact h1
 ·intro k hk;have h1:=h.sl k hk
  refine⟨h1.1,fun hl=>?_,fun ht=>?_,Nat.lt_of_lt_of_le h1.2.2.2 hz⟩
  ·rcases hL k hl with h2 | h2
   ·exact h1.2.1 h2
   ·have:=h1.2.2.2;omega
  ·rcases hT k ht with h2 | h2
   ·exact h1.2.2.1 h2
   ·exact hs.ap k h2 hk
 ·intro k hk;rcases hL k hk with h1 | h1
  ·refine⟨(h.lb k h1).1,fun ht=>?_⟩
   rcases hT k ht with h2 | h2
   ·exact (h.lb k h1).2 h2
   ·exact hsn k h2 (.inr (.inl h1))
  ·exact⟨fun hbk=>by have:=h.lo k hbk;omega,fun ht=>by have:=hTlt k ht;omega⟩
 ·intro k hk;rcases hT k hk with h1 | h1
  ·exact h.tb k h1
  ·exact fun hbk=>hsn k h1 (.inl hbk)
 ·intro i j hi hj hij k hk hk2;rw[List.length_append,List.length_singleton] at hi hj
  by_cases h1:i<ss.length
  ·rw[List.getElem_append_left h1] at hk
   by_cases h2:j<ss.length
   ·rw[List.getElem_append_left h2] at hk2
    exact h.apart i j h1 h2 hij k hk hk2
   ·obtain rfl:j=ss.length:=by omega
    have e1:(ss++[(s,v)])[ss.length]'(by simp)=(s,v):=by simp
    rw[e1] at hk2;exact hsn k hk2 (.inr (.inr (THas.of h1 hk)))
  ·obtain rfl:i=ss.length:=by omega
   have e1:(ss++[(s,v)])[ss.length]'(by simp)=(s,v):=by simp
   rw[e1] at hk;have h2:j<ss.length:=by omega
   rw[List.getElem_append_left h2] at hk2
   exact hsn k hk (.inr (.inr (THas.of h2 hk2)))
open Go.Shelf
theorem bytes_eqT {a b:ByteArray}(h:a=b):(a.toList==b.toList)=true:=by rw[h];simp
theorem bytes_eqF {a b:ByteArray}(h:a≠b):(a.toList==b.toList)=false:=by
 rw[beq_eq_false_iff_ne];intro e;rw[ByteArray.toList_eq,ByteArray.toList_eq] at e;exact h (ba_eq e)
theorem chg_bytes {w w':World}{T:TypeId}(h:w'=w∨∃ t,w'=Lib.bytesWorld w T t):Chg Nil w w':=by
 rcases h with rfl | ⟨t,rfl⟩
 ·exact Chg.refl _ _
 ·exact Chg.of_below (Lib.bytesWorld_below _ _ _) _
theorem atoi_any {w:World}(hT:TabE w) (s:ByteArray)(hs:s.size≤1000) :
  Calls Tryz.prog 86 #[.string s] w fun e w'=>Chg Nil w w'∧
   ((∃ v,atoiAll s.data.toList = .ok v∧e = .returned (.tuple #[.int .i64 v,.nilIface]))∨
    ((∀ v,atoiAll s.data.toList≠.ok v)∧∃ v t N,e = .returned (.tuple #[.int .i64 v,.iface t (.pointer (some ⟨N,0,none⟩))]))):=by
 rcases h:atoiAll s.data.toList with v | _ | _
 ·exact (Any.strconv_Atoi_ok Tryz.laysC172 s (by omega) v h w).mono fun e w' ⟨h1,h2⟩=>⟨chg_bytes h2,.inl ⟨v,rfl,h1⟩⟩
 ·obtain⟨tp,p,hv⟩:=hT.syn
  exact (Any.strconv_Atoi_syntax_var Tryz.laysC172 s (by omega) h tp p w hv).mono fun e w' ⟨N,h1,_,_,h2⟩=>⟨Chg.of_below h2 _,.inr ⟨fun v=>(by simp),_,_,N,h1⟩⟩
 ·obtain⟨tp,p,hv⟩:=hT.rng
  exact (Any.strconv_Atoi_range_var Tryz.laysC172 s (by omega) h tp p w hv).mono fun e w' ⟨N,h1,_,_,h2⟩=>⟨Chg.of_below h2 _,.inr ⟨fun v=>(by simp),_,_,N,h1⟩⟩
def progEnd (d nm:List UInt8):NumEnd Int→Int
 | .ok v=>if 0≤v∧v≤1099511627776∧segName d v.toNat=nm then v else -1
 | _=>-1
theorem progBase_eq {d nm a:List UInt8}(h:trimPrefix nm (d++[47])=a):progBase d nm=if hasSuffix a dotlog=true then progEnd d nm (atoiAll (trimSuffix a dotlog)) else -1:=by
 subst h;unfold progBase;simp only
 split
 ·cases atoiAll (trimSuffix (trimPrefix nm (d++[47])) dotlog)<;>rfl
 ·rfl
theorem trimSuffix_len (a p:List UInt8):(trimSuffix a p).length≤a.length:=by
 unfold trimSuffix;split
 ·rw[List.length_take];omega
 ·exact Nat.le_refl _
theorem trimPrefix_len (a p:List UInt8):(trimPrefix a p).length≤a.length:=by
 unfold trimPrefix;split
 ·rw[List.length_drop];omega
 ·exact Nat.le_refl _
theorem progBase_any {w:World} (hT:TabE w) (d nm:ByteArray) (hd:d.size≤500) (hn:nm.size≤900) :
  Calls Tryz.prog 50 #[.string d,.string nm] w fun e w'=>e = .returned (.int .i64 (progBase d.data.toList nm.data.toList))∧Chg Nil w w':=by
 have HC:=Lib.hid (fun p=>Any.strings_CutPrefix Tryz.lays103 nm p w)
 have HT:=Lib.hid hT
 clear hT;go_enter Tryz.func50,Tryz.ntmps50
 go_wp2_with (go_at_call 84;refine (HC.out _).mono ?_;rintro e w1 ⟨rfl,rfl⟩)
 obtain⟨a,ha⟩:∃ a:List UInt8,trimPrefix nm.data.toList (d.data.toList++[47])=a:=⟨_,rfl⟩
 have hal:a.length≤900:=by
  have:=list_size nm
  rw[←ha];exact Nat.le_trans (trimPrefix_len _ _) (by omega)
 have hpb:=progBase_eq ha
 rw[ha];clear ha;have hx:(ByteArray.mk a.toArray).size=a.length:=by rw[←list_size]
 refine (Any.strings_CutSuffix Tryz.lays104 ⟨a.toArray⟩ ⟨#[46,108,111,103]⟩ w1 (by rw[hx];omega)).mono ?_
 rintro e w2 ⟨rfl,rfl⟩
 have hx2:(ByteArray.mk #[46,108,111,103]).data.toList=dotlog:=rfl
 have hx3:(ByteArray.mk a.toArray).data.toList=a:=rfl
 rw[hx2,hx3];obtain⟨b,hb⟩:∃ b:List UInt8,trimSuffix a dotlog=b:=⟨_,rfl⟩
 have hbl:b.length≤900:=by rw[←hb];exact Nat.le_trans (trimSuffix_len _ _) hal
 obtain⟨y,hy⟩:∃ y:Bool,hasSuffix a dotlog=y:=⟨_,rfl⟩
 rw[hb,hy];rw[hb,hy] at hpb;clear hb hy hx hx2 hx3 hal;have HPB:=Lib.hid hpb
 clear hpb;cases y with
 | false=>
  go_wp2_with fail;go_ret;exact⟨by rw[HPB.out];rfl,Chg.refl _ _⟩
 | true=>
  have hbs:(ByteArray.mk b.toArray).size=b.length:=by rw[←list_size]
  have HA:=Lib.hid (atoi_any HT.out ⟨b.toArray⟩ (by rw[hbs];omega))
  clear hbs;go_wp2_with (go_at_call 86;refine HA.out.mono ?_)
  rintro e w3 ⟨hc3,⟨v,hv,rfl⟩ | ⟨hv,v,t,N,rfl⟩⟩
  ·have hv:atoiAll b = .ok v:=hv
   have hpb:=HPB.out
   rw[hv,if_pos trivial] at hpb
   have HPB2:=Lib.hid hpb
   clear hpb HPB hv HA;by_cases h0:v<0
   ·go_wp2_with fail;go_ret;exact⟨by rw[HPB2.out,progEnd,if_neg (by omega)];rfl,hc3⟩
   ·by_cases h1:1099511627776<v
    ·go_wp2_with fail;go_ret;exact⟨by rw[HPB2.out,progEnd,if_neg (by omega)];rfl,hc3⟩
    ·obtain⟨n,rfl⟩:∃ n:Nat,v=n:=⟨v.toNat,by omega⟩
     have HN:=Lib.hid (name_any (HT.out.chg hc3).tabs d n (by omega) (by omega))
     obtain⟨q,hq⟩:∃ q:ByteArray,(ByteArray.mk (segName d.data.toList n).toArray)=q:=⟨_,rfl⟩
     rw[hq] at HN;have hqs:q=nm↔segName d.data.toList n=nm.data.toList:=by
      rw[←hq];constructor
      ·rintro rfl;rfl
      ·intro h;exact ba_eq h
     have HP3:Hid (progBase d.data.toList nm.data.toList=if q=nm then (n:Int) else -1):=by
      unfold Hid;rw[HPB2.out,progEnd,Int.toNat_natCast];by_cases he:q=nm
      ·rw[if_pos he,if_pos ⟨by omega,by omega,hqs.1 he⟩]
      ·rw[if_neg he,if_neg (fun h=>he (hqs.2 h.2.2))]
     clear hq hqs HPB2;by_cases he:q=nm
     ·have hne:=bytes_eqT he
      have HE:=Lib.hid he
      clear he;go_wp2_with (go_at_call 87;refine HN.out.mono ?_;rintro e w4 ⟨rfl,hc4⟩)
      go_ret;refine⟨?_,hc3.trans hc4 (fun _ h=>h.elim)⟩
      rw[HP3.out,if_pos HE.out];rfl
     ·have hne:=bytes_eqF he
      have HE:=Lib.hid he
      clear he;go_wp2_with (go_at_call 87;refine HN.out.mono ?_;rintro e w4 ⟨rfl,hc4⟩)
      go_ret;refine⟨?_,hc3.trans hc4 (fun _ h=>h.elim)⟩
      rw[HP3.out,if_neg HE.out];rfl
  ·have HV:Hid (progBase d.data.toList nm.data.toList = -1):=by
    unfold Hid;rw[HPB.out,if_pos trivial]
    rcases h:atoiAll b with v | _ | _
    ·exact absurd h (hv v)
    ·rfl
    ·rfl
   clear HPB hv HA;go_wp2_with fail;go_ret;exact⟨by rw[HV.out];rfl,hc3⟩
end Go.Proofs.YtdjmifaidgbbaaaGreatDoor
