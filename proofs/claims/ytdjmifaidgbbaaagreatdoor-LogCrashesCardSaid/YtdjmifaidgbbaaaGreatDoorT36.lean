/-
  Open of a log behind a crash, whether the disk fails meanwhile or not. Plain. (Of the logs' seat.)
-/
import Derived.Test.YtdjmifaidgbbaaaGreatDoorT35
set_option linter.unusedVariables false
set_option linter.unusedSimpArgs false
set_option maxHeartbeats 0
set_option maxRecDepth 200000
namespace Go.Proofs.YtdjmifaidgbbaaaGreatDoor
open Go.RowKit Go.Lib
section
variable {d:Dk} {dir:Nm} {ys:List SgB} {z:SgB} {k:Nat} {s:Int}
theorem Kp.listed (h:Kp d dir ys z k s)(hsm:∀ x∈ys++[z],x.1.base<10000000000):(d.list (dir++[47])).filter (fun x=>decide (¬progBase dir x<0))=(ys++[z]).map (·.1.name):=by
 have tr:∀ x y z:Nm,decide (x≤y)=true→decide (y≤z)=true→decide (x≤z)=true:=fun x y z h1 h2=>decide_eq_true (List.le_trans (of_decide_eq_true h1) (of_decide_eq_true h2))
 have tt:∀ x y:Nm,(decide (x≤y)||decide (y≤x))=true:=fun x y=>by
  rcases List.le_total x y with h | h
  ·rw[decide_eq_true h];rfl
  ·rw[decide_eq_true h,Bool.or_true]
 have hof:∀ x∈ys++[z],SgOf x.1 x.2:=fun x hx=>(h.nm x hx).2.2.2.2
 have hpr:=lined_pair hof h.line
 have s1:((d.list (dir++[47])).filter (fun x=>decide (¬progBase dir x<0))).Pairwise (fun a b=>decide (a≤b)=true):=(List.pairwise_mergeSort tr tt _).filter _
 have s2:((ys++[z]).map (·.1.name)).Pairwise (fun a b=>decide (a≤b)=true):=by
  rw[List.pairwise_map];refine hpr.imp_of_mem ?_
  intro a b ha hb hab;obtain⟨a1,a2,_⟩:=h.nm a ha
  obtain⟨b1,b2,_⟩:=h.nm b hb
  have:=hsm b hb
  rw[a1,b1];exact decide_eq_true (seg_le dir (by omega) (by omega))
 have n1:((d.list (dir++[47])).filter (fun x=>decide (¬progBase dir x<0))).Nodup:=(list_nodup h.ok _).sublist List.filter_sublist
 have n2:((ys++[z]).map (·.1.name)).Nodup:=by
  unfold List.Nodup;rw[List.pairwise_map];refine hpr.imp_of_mem ?_
  intro a b ha hb hab e;obtain⟨a1,a2,a3,_⟩:=h.nm a ha
  obtain⟨b1,b2,b3,_⟩:=h.nm b hb
  rw[a1,b1] at e;have:=segName_inj (by omega) (by omega) e
  omega
 refine List.Perm.eq_of_pairwise (fun x y _ _ h1 h2=>List.le_antisymm (of_decide_eq_true h1) (of_decide_eq_true h2)) s1 s2 ((List.perm_ext_iff_of_nodup n1 n2).2 fun x=>?_)
 rw[List.mem_filter,list_mem,List.mem_map];constructor
 ·rintro⟨⟨hx,_⟩,hb⟩
  have hb:=of_decide_eq_true hb
  obtain⟨e1,e2⟩:=prog_name hb
  have hs:(d.find (segName dir (progBase dir x).toNat)).isSome=true:=by
   rw[e1];cases hf:d.find x with
   | none=>exact absurd hx (lookup_none.1 hf)
   | some _=>rfl
  obtain⟨y,hy,hyb⟩:=h.only _ e2 hs
  refine⟨y,hy,?_⟩
  rw[(h.nm y hy).1,hyb,Int.toNat_natCast,e1]
 ·rintro⟨y,hy,rfl⟩
  obtain⟨y1,y2,y3,y4,_⟩:=h.nm y hy
  have hm:y.1.name∈d.names:=Classical.byContradiction fun hn=>by
   rw[show d.find y.1.name=none from lookup_none.2 hn] at y4
   cases y4
  refine⟨⟨hm,by rw[y1];exact seg_pre _ _⟩,decide_eq_true ?_⟩
  rw[y1,prog_hit dir (by omega)]
  omega
end
theorem open_rest {dir:Nm}{ys:List SgB}{z:SgB}{k:Nat}{s:Int}{C:Nat→List Bt×List UInt8}:∀ (L:List Nm) {d:Dk} (ss:List Sg) (dn:Bool),Kp d dir ys z k s→(∀ x∈L,progBase dir x<0)→L.Nodup→(∀ x∈L,(d.find x).isSome=true)→RestF d L (ys++[z])→
  ∃ d',Kp d' dir ys z k s∧d'.find z.1.name=d.find z.1.name∧d'.room=d.room∧((openGo dir C L d ss dn=(14,d',ss,dn)∧d.left≠-1)∨(openGo dir C L d ss dn=(0,d',ss,dn)∧OnlyF d' (ys++[z])∧(d.left = -1→d'.left = -1)))
 | [],d,ss,dn,h,_,_,_,hr=>⟨d,h,rfl,rfl,.inr ⟨rfl,fun y hy=>(hr y hy).resolve_left (by simp),fun h=>h⟩⟩
 | x::r,d,ss,dn,h,hb,hn,hs,hr=>by
  rw[List.nodup_cons] at hn;have hx:=hb x (List.mem_cons_self ..)
  have ho:offAt dir x ss dn=true:=by unfold offAt;rw[decide_eq_true hx];rfl
  have e:openGo dir C (x::r) d ss dn=if (d.remove x).1=0 then openGo dir C r (d.remove x).2 ss dn else ((d.remove x).1,(d.remove x).2,ss,dn):=by rw[openGo,if_pos ho]
  rw[e];rcases h.remove hx (hs x (List.mem_cons_self ..)) with ⟨h1,h2⟩ | ⟨d1,h1,h2,h3,h4,h5⟩
  ·rw[h1,if_neg (by simp)]
   exact⟨d,h,rfl,rfl,.inl ⟨rfl,h2⟩⟩
  ·rw[h1,if_pos rfl]
   have hzx:z.1.name≠x:=fun e=>by
    rw[←e,h.znm,prog_hit dir (by have:=h.zhi;have:=h.zlo;omega)] at hx
    omega
   obtain⟨d',k1,k2,k3,k4⟩:=open_rest (C:=C) r ss dn h2 (fun y hy=>hb y (List.mem_cons_of_mem _ hy)) hn.2 (fun y hy=>by rw[h3,if_neg (show ¬y=x from fun e=>hn.1 (e ▸ hy))];exact hs y (List.mem_cons_of_mem _ hy)) (fun y hy=>by
    rw[h3] at hy;split at hy
    ·cases hy
    ·next hne=>exact (hr y hy).imp (fun hm=>(List.mem_cons.1 hm).resolve_left hne) id)
   refine⟨d',k1,by rw[k2,h3,if_neg hzx],by rw[k3,h4],?_⟩
   rcases k4 with ⟨q1,q2⟩ | ⟨q1,q2,q3⟩
   ·exact .inl ⟨q1,fun hl=>q2 (h5 hl)⟩
   ·exact .inr ⟨q1,q2,fun hl=>q3 (h5 hl)⟩
theorem lastNext_snoc (l:List Sg) (a:Sg):lastNext (l++[a])=a.next:=by
 unfold lastNext;simp
theorem lined_next:∀ {ys:List SgB}{a b:SgB}{r:List SgB},lined (ys++a::b::r)→b.1.base=a.1.next
 | [],a,b,r,h=>h.1
 | [c],a,b,r,h=>lined_next (ys:=[]) h.2.2
 | c::e::ys,a,b,r,h=>lined_next (ys:=e::ys) h.2.2
theorem off_no {dir x:Nm}{ys1:List SgB}{y:SgB}{r:List SgB}(hl:lined (ys1++y::r))(hb:progBase dir x=y.1.base)(h0:0≤y.1.base):offAt dir x (ys1.map (·.1)) false=false:=by
 unfold offAt;rw[decide_eq_false (by rw[hb];omega),Bool.false_or,Bool.false_or]
 rcases List.eq_nil_or_concat ys1 with rfl | ⟨q,a,rfl⟩
 ·rfl
 ·rw[List.concat_eq_append] at hl ⊢
  rw[List.map_append,List.map_singleton,lastNext_snoc];have h1:lined (q++a::y::r):=by rw[List.append_assoc] at hl;exact hl
  have h2:=lined_next h1
  rw[decide_eq_false (p:=progBase dir x<a.1.next) (by omega),Bool.and_false]
theorem cut_done {d:Dk}{x:Nm}{n:Int}(h:(d.cut x n).1=0):∃ f,d.find x=some f∧(d.cut x n).2=d.step.turn x ⟨f.bytes.take n.toNat,min f.safe n.toNat⟩:=by
 obtain⟨f,hf,h1,h2⟩:=at_done h
 refine⟨f,hf,?_⟩
 by_cases hr:n<0∨(f.bytes.length:Int)<n
 ·simp only[if_pos hr] at h1
  cases h1
 ·simp only[if_neg hr] at h2
  exact h2
theorem cut_keeps {d:Dk}(h:d.Ok) (x:Nm) (n:Int):(d.cut x n).2.Ok:=at_keeps h fun f hf=>by
 by_cases hr:n<0∨(f.bytes.length:Int)<n
 ·simp only[if_pos hr];exact h.step
 ·simp only[if_neg hr]
  refine h.step.turn (g:=f) hf ?_ ?_
  ·show min f.safe n.toNat≤(f.bytes.take n.toNat).length
   have hs:f.safe≤f.bytes.length:=h.safe _ (lookup_some hf)
   rw[List.length_take];omega
  ·show d.used+(f.bytes.take n.toNat).length≤d.room+f.bytes.length
   have:=h.fits
   rw[List.length_take];omega
theorem cut_room (d:Dk) (x:Nm) (n:Int):(d.cut x n).2.room=d.room:=at_room fun f e=>by by_cases hr:n<0∨(f.bytes.length:Int)<n<;>simp only[hr,if_true,if_false]<;>rfl
theorem Kp.cutZ {d:Dk}{dir:Nm}{ys:List SgB}{z:SgB}{k:Nat}{s:Int}(h:Kp d dir ys z k s) {j:Nat}{junk:List UInt8}(hj:j≤z.2.length)(he:(batBs z.2).take k=batBs (z.2.take j)++junk)(hm:∀ m,m≤z.2.length→(batBs (z.2.take m)).length≤((batBs z.2).take k).length→m≤j) :
  ∃ d' k',Kp d' dir ys z k' s∧d'.room=d.room∧(∀ y,(d'.find y).isSome=(d.find y).isSome)∧
   ((openR d z.1.name (z.2.take j) junk=(14,d')∧d.left≠-1)∨(openR d z.1.name (z.2.take j) junk=(0,d')∧(∃ sf,d'.find z.1.name=some ⟨batBs (z.2.take j),sf⟩)∧(d.left = -1→d'.left = -1))):=by
 obtain⟨sf,m,h1,h2,h3,h4⟩:=h.zfl
 unfold openR;by_cases hjk:junk=[]
 ·rw[if_pos hjk]
  rw[he,hjk,List.append_nil] at h1;exact⟨d,k,h,rfl,fun _=>rfl,.inr ⟨rfl,⟨sf,h1⟩,fun h=>h⟩⟩
 ·rw[if_neg hjk]
  by_cases h14:(d.cut z.1.name ((batBs (z.2.take j)).length:Nat)).1=14
  ·refine⟨d,k,h,rfl,fun _=>rfl,.inl ⟨cut_14 h14,fun hl=>?_⟩⟩
   refine (at_left (d:=d) (x:=z.1.name) (g:=fun f=>if (((batBs (z.2.take j)).length:Nat):Int)<0∨(f.bytes.length:Int)<((batBs (z.2.take j)).length:Nat) then (2,id) else (0,fun d=>d.turn z.1.name ⟨f.bytes.take ((((batBs (z.2.take j)).length:Nat):Int)).toNat,min f.safe ((((batBs (z.2.take j)).length:Nat):Int)).toNat⟩)) (fun f=>?_) (fun f e=>?_) hl).1 h14
   ·split<;>simp
   ·split<;>rfl
  ·have h0:(d.cut z.1.name ((batBs (z.2.take j)).length:Nat)).1=0:=by
    have h14':=h14
    unfold Dk.cut Dk.at at h14' ⊢
    by_cases hd:d.does=false
    ·rw[if_pos hd] at h14';exact absurd rfl h14'
    ·rw[if_neg hd,h1,he]
     simp only
     rw[if_neg (by rw[List.length_append];omega)]
   obtain⟨f,hf,hd⟩:=cut_done h0
   rw[h1] at hf;obtain rfl:=Option.some.inj hf
   simp only[Int.toNat_natCast] at hd
   rw[he,List.take_left' rfl] at hd
   have hfd:∀ y,(d.cut z.1.name ((batBs (z.2.take j)).length:Nat)).2.find y=if y=z.1.name then some ⟨batBs (z.2.take j),min sf (batBs (z.2.take j)).length⟩ else d.find y:=by
    intro y;rw[hd,find_turn,step_find];by_cases e:y=z.1.name
    ·rw[if_pos e,if_pos e,e,h1]
     rfl
    ·rw[if_neg e,if_neg e]
   have hsome:∀ y,((d.cut z.1.name ((batBs (z.2.take j)).length:Nat)).2.find y).isSome=(d.find y).isSome:=fun y=>by
    rw[hfd];split
    ·next e=>rw[e,h1];rfl
    ·rfl
   have hne:∀ y∈ys,y.1.name≠z.1.name:=fun y hy e=>by
    have hof:∀ x∈ys++[z],SgOf x.1 x.2:=fun x hx=>(h.nm x hx).2.2.2.2
    obtain⟨a1,a2,a3,_⟩:=h.nm y (List.mem_append_left _ hy)
    rw[a1,h.znm] at e;have q1:=segName_inj (by omega) (by have:=h.zhi;have:=h.zlo;omega) e
    have q2:=(lined_before hof h.line y hy).2
    have:=h.zlo
    omega
   have hsf:sf≤((batBs z.2).take k).length:=h.ok.safe _ (lookup_some h1)
   have hmj:=hm m h2 (by omega)
   have hlen:(batBs (z.2.take m)).length≤(batBs (z.2.take j)).length:=by
    have e:z.2.take m=(z.2.take j).take m:=by rw[List.take_take,Nat.min_eq_left hmj]
    rw[e];exact batBs_take_le _ _
   refine⟨(d.cut z.1.name ((batBs (z.2.take j)).length:Nat)).2,(batBs (z.2.take j)).length,⟨fun y hy=>?_,fun y hy=>?_,h.zof,h.znm,h.zlo,h.zhi,⟨min sf (batBs (z.2.take j)).length,m,?_,h2,by omega,h4⟩,h.line,fun n hn hs=>h.only n hn (by rw[←hsome];exact hs),h.kn,cut_keeps h.ok _ _,fun y hy=>h.pre y (by rw[←hsome];exact hy)⟩,cut_room _ _ _,hsome,.inr ⟨by rw[←h0],⟨min sf (batBs (z.2.take j)).length,by rw[hfd,if_pos rfl]⟩,fun hl=>?_⟩⟩
   ·exact (h.each y hy).other (by rw[hfd,if_neg (hne y hy)])
   ·unfold AllSafe;rw[hfd,if_neg (hne y hy)]
    exact h.all y hy
   ·rw[hfd,if_pos rfl,batBs_at]
   ·rw[hd];exact step_left hl
theorem open_segs {dir:Nm}{z:SgB}{s:Int}{C:Nat→List Bt×List UInt8}{j:Nat}{junk:List UInt8}(hj:j≤z.2.length)(hCz:C z.1.base.toNat=(z.2.take j,junk)) :
  ∀ (L:List Nm) (ys2 ys1:List SgB) {d:Dk}{k:Nat},Kp d dir (ys1++ys2) z k s→(batBs z.2).take k=batBs (z.2.take j)++junk→(∀ m,m≤z.2.length→(batBs (z.2.take m)).length≤((batBs z.2).take k).length→m≤j)→
  L.filter (fun x=>decide (¬progBase dir x<0))=(ys2++[z]).map (·.1.name)→L.Nodup→(∀ x∈L,(d.find x).isSome=true)→RestF d L (ys1++ys2++[z])→(∀ y∈ys2,C y.1.base.toNat=(y.2,[]))→
  ∃ d' k',Kp d' dir (ys1++ys2) z k' s∧d'.room=d.room∧
   (((∃ ss dn,openGo dir C L d (ys1.map (·.1)) false=(14,d',ss,dn))∧d.left≠-1)∨
    ((∃ dn,openGo dir C L d (ys1.map (·.1)) false=(0,d',(ys1++ys2).map (·.1)++[sgMk z.1.name z.1.base (z.2.take j)],dn))∧OnlyF d' (ys1++ys2++[z])∧(∃ sf,d'.find z.1.name=some ⟨batBs (z.2.take j),sf⟩)∧(d.left = -1→d'.left = -1)))
 | [],ys2,ys1,d,k,h,_,_,hf,_,_,_,_=>by
  exfalso
  have:=congrArg List.length hf
  simp at this
 | x::r,ys2,ys1,d,k,h,he,hm,hf,hn,hs,hr,hC=>by
  rw[List.nodup_cons] at hn;by_cases hx:progBase dir x<0
  ·rw[List.filter_cons_of_neg (by simpa using hx)] at hf
   have ho:offAt dir x (ys1.map (·.1)) false=true:=by unfold offAt;rw[decide_eq_true hx];rfl
   have e:openGo dir C (x::r) d (ys1.map (·.1)) false=if (d.remove x).1=0 then openGo dir C r (d.remove x).2 (ys1.map (·.1)) false else ((d.remove x).1,(d.remove x).2,ys1.map (·.1),false):=by rw[openGo,if_pos ho]
   rw[e];rcases h.remove hx (hs x (List.mem_cons_self ..)) with ⟨h1,h2⟩ | ⟨d1,h1,h2,h3,h4,h5⟩
   · rw[h1,if_neg (by simp)]
     exact⟨d,k,h,rfl,.inl ⟨⟨_,_,rfl⟩,h2⟩⟩
   · rw[h1,if_pos rfl]
     obtain⟨d',k',k1,k3,k4⟩:=open_segs hj hCz r ys2 ys1 h2 he hm hf hn.2 (fun y hy=>by rw[h3,if_neg (show ¬y=x from fun e=>hn.1 (e ▸ hy))];exact hs y (List.mem_cons_of_mem _ hy)) (fun y hy=>by
      rw[h3] at hy;split at hy
      ·cases hy
      ·next hne=>exact (hr y hy).imp (fun hm=>(List.mem_cons.1 hm).resolve_left hne) id) hC
     refine⟨d',k',k1,by rw[k3,h4],?_⟩
     rcases k4 with ⟨q1,q2⟩ | ⟨q1,q2,q3,q4⟩
     ·exact .inl ⟨q1,fun hl=>q2 (h5 hl)⟩
     ·exact .inr ⟨q1,q2,q3,fun hl=>q4 (h5 hl)⟩
  ·rw[List.filter_cons_of_pos (by simpa using hx)] at hf
   obtain⟨hnm,hmx⟩:=prog_name hx
   cases ys2 with
   | nil=>
     rw[List.nil_append,List.map_singleton] at hf;obtain⟨hxz,hrest⟩:=List.cons.inj hf
     have hb:progBase dir x=z.1.base:=by
      rw[hxz,h.znm,prog_hit dir (by have:=h.zhi;have:=h.zlo;omega)]
      have:=h.zlo
      omega
     rw[List.append_nil] at h hr ⊢
     have hno:∀ y∈r,progBase dir y<0:=fun y hy=>Classical.byContradiction fun hc=>by
      have h1:y∈r.filter (fun x=>decide (¬progBase dir x<0)):=List.mem_filter.2 ⟨hy,decide_eq_true hc⟩
      rw[hrest] at h1;cases h1
     have ho:offAt dir x (ys1.map (·.1)) false=false:=off_no (r:=[]) h.line hb h.zlo
     have e:openGo dir C (x::r) d (ys1.map (·.1)) false=if (openR d x (C (progBase dir x).toNat).1 (C (progBase dir x).toNat).2).1=0 then openGo dir C r (openR d x (C (progBase dir x).toNat).1 (C (progBase dir x).toNat).2).2 (ys1.map (·.1)++[sgMk x (progBase dir x) (C (progBase dir x).toNat).1]) (decide (0<(C (progBase dir x).toNat).2.length)) else ((openR d x (C (progBase dir x).toNat).1 (C (progBase dir x).toNat).2).1,(openR d x (C (progBase dir x).toNat).1 (C (progBase dir x).toNat).2).2,ys1.map (·.1),false):=by rw[openGo,if_neg (by rw[ho];simp)]
     rw[e,hb,hCz,hxz];simp only
     obtain⟨d1,k1,c1,c2,c3,c4⟩:=h.cutZ hj he hm
     rcases c4 with ⟨c4,c5⟩ | ⟨c4,c5,c6⟩
     ·rw[c4,if_neg (by simp)]
      exact⟨d1,k1,c1,c2,.inl ⟨⟨_,_,rfl⟩,c5⟩⟩
     ·rw[c4,if_pos rfl]
      obtain⟨d',q1,q2,q3,q4⟩:=open_rest (C:=C) r (ys1.map (·.1)++[sgMk z.1.name z.1.base (z.2.take j)]) (decide (0<junk.length)) c1 hno hn.2 (fun y hy=>by rw[c3];exact hs y (List.mem_cons_of_mem _ hy)) (fun y hy=>by
       rw[c3] at hy;rcases hr y hy with hm | hm
       ·rcases List.mem_cons.1 hm with rfl | hm
        ·exact .inr ⟨z,by simp,hxz⟩
        ·exact .inl hm
       ·exact .inr hm)
      refine⟨d',k1,q1,by rw[q3,c2],?_⟩
      rcases q4 with ⟨p1,p2⟩ | ⟨p1,p2,p3⟩
      ·exact .inl ⟨⟨_,_,p1⟩,fun hl=>p2 (c6 hl)⟩
      ·exact .inr ⟨⟨_,p1⟩,p2,by rw[q2];exact c5,fun hl=>p3 (c6 hl)⟩
   | cons y ys2=>
     rw[List.cons_append,List.map_cons] at hf;obtain⟨hxy,hrest⟩:=List.cons.inj hf
     have hyn:=h.nm y (by simp)
     have hyin:=h.each y (by simp)
     have hb:progBase dir x=y.1.base:=by
      rw[hxy,hyn.1,prog_hit dir (by have:=hyn.2;omega)]
      have:=hyn.2.1
      omega
     have hl:lined (ys1++y::(ys2++[z])):=by have h1:=h.line;rw[List.append_assoc,List.cons_append] at h1;exact h1
     have ho:offAt dir x (ys1.map (·.1)) false=false:=off_no hl hb hyn.2.1
     have e:openGo dir C (x::r) d (ys1.map (·.1)) false=if (openR d x (C (progBase dir x).toNat).1 (C (progBase dir x).toNat).2).1=0 then openGo dir C r (openR d x (C (progBase dir x).toNat).1 (C (progBase dir x).toNat).2).2 (ys1.map (·.1)++[sgMk x (progBase dir x) (C (progBase dir x).toNat).1]) (decide (0<(C (progBase dir x).toNat).2.length)) else ((openR d x (C (progBase dir x).toNat).1 (C (progBase dir x).toNat).2).1,(openR d x (C (progBase dir x).toNat).1 (C (progBase dir x).toNat).2).2,ys1.map (·.1),false):=by rw[openGo,if_neg (by rw[ho];simp)]
     have hgm:sgMk y.1.name y.1.base y.2=y.1:=(sgMk_eq hyin.of rfl rfl).symm
     rw[e,hb,hC y (by simp),hxy]
     simp only
     rw[show openR d y.1.name y.2 []=(0,d) from if_pos rfl,if_pos rfl,hgm]
     have e2:ys1.map (·.1)++[y.1]=(ys1++[y]).map (·.1):=by simp
     have e3:decide (0<([]:List UInt8).length)=false:=rfl
     have e4:ys1++y::ys2=ys1++[y]++ys2:=by simp
     rw[e2,e3,e4];rw[e4] at h hr
     exact open_segs hj hCz r ys2 (ys1++[y]) h he hm hrest hn.2 (fun v hv=>hs v (List.mem_cons_of_mem _ hv)) (fun v hv=>by
      rcases hr v hv with hm | hm
      ·rcases List.mem_cons.1 hm with rfl | hm
       ·exact .inr ⟨y,by simp,hxy⟩
       ·exact .inl hm
      ·exact .inr hm) (fun v hv=>hC v (List.mem_cons_of_mem _ hv))
def fdsOf (ys:List SgB) (z:SgB) (c:List Bt×List UInt8) (n:Nat):List Bt×List UInt8:=if n=z.1.base.toNat then c else ((ys.find? fun y=>y.1.base.toNat==n).map fun y=>(y.2,[])).getD ([],[])
structure OpenZ (dir:Nm) (most:Int) (ys:List SgB) (z z':SgB) (d':Dk) (g':Lg):Prop where
 up:Up0 d' g' ys z'
 safe:AllSafe d' z'
 only:OnlyF d' (ys++[z'])
 dir:g'.dir=dir
 most:g'.most=most
 start:g'.start=headBase (ys++[z'])
 stop:g'.safe=g'.stop
theorem open_kp {d:Dk}{dir:Nm}{ys:List SgB}{z:SgB}{k:Nat}{s:Int}(h:Kp d dir ys z k s)(hsm:∀ x∈ys++[z],x.1.base<10000000000) (most:Int) :
  ∃ C j,(∀ x∈d.list (dir++[47]),¬progBase dir x<0→FdOk d dir (progBase dir x).toNat (C (progBase dir x).toNat))∧j≤z.2.length∧s≤lastEnd z.1.base (z.2.take j)∧
   ∃ d' g',d'.room=d.room∧((openLg C dir most 0 d=(14,d',g')∧d.left≠-1∧∃ k',Kp d' dir ys z k' s)∨
    (openLg C dir most 0 d=(0,d',g')∧OpenZ dir most ys z (sgMk z.1.name z.1.base (z.2.take j),z.2.take j) d' g')):=by
 obtain⟨j,junk,hj,he,hu,hm⟩:=h.torn
 have hof:∀ x∈ys++[z],SgOf x.1 x.2:=fun x hx=>(h.nm x hx).2.2.2.2
 have hlt:∀ y∈ys,y.1.base<z.1.base:=fun y hy=>(lined_before hof h.line y hy).2
 have hpr:=lined_pair hof h.line
 have hCz:fdsOf ys z (z.2.take j,junk) z.1.base.toNat=(z.2.take j,junk):=if_pos rfl
 have hCy:∀ y∈ys,fdsOf ys z (z.2.take j,junk) y.1.base.toNat=(y.2,[]):=fun y hy=>by
  have h1:=hlt y hy
  have h2:=(h.nm y (List.mem_append_left _ hy)).2.1
  have h3:=h.zlo
  unfold fdsOf;rw[if_neg (by omega)]
  have key:∀ (l:List SgB),l.Pairwise (fun a b=>a.1.base<b.1.base)→(∀ v∈l,0≤v.1.base)→y∈l→l.find? (fun v=>v.1.base.toNat==y.1.base.toNat)=some y:=by
   intro l;induction l with
   | nil=>intro _ _ hy;cases hy
   | cons a l ih=>
    intro hp h0 hy;rw[List.pairwise_cons] at hp;rcases List.mem_cons.1 hy with rfl | hy
    ·rw[List.find?_cons_of_pos (by simp)]
    ·have q1:=hp.1 y hy
     have q2:=h0 a (List.mem_cons_self ..)
     rw[List.find?_cons_of_neg (by simp;omega)]
     exact ih hp.2 (fun v hv=>h0 v (List.mem_cons_of_mem _ hv)) hy
  rw[key ys (hpr.sublist (List.sublist_append_left _ _)) (fun v hv=>(h.nm v (List.mem_append_left _ hv)).2.1) hy]
  rfl
 obtain⟨sf,m,z1,z2,z3,z4⟩:=h.zfl
 have hsf:sf≤((batBs z.2).take k).length:=h.ok.safe _ (lookup_some z1)
 have hs:s≤lastEnd z.1.base (z.2.take j):=Int.le_trans z4 (lastEnd_mono h.zof.ok h.zof.up (hm m z2 (by omega)))
 refine⟨fdsOf ys z (z.2.take j,junk),j,fun x hx hb=>?_,hj,hs,?_⟩
 ·obtain⟨e1,e2⟩:=prog_name hb
  have hss:(d.find (segName dir (progBase dir x).toNat)).isSome=true:=by
   rw[e1];cases hf:d.find x with
   | none=>exact absurd (list_mem.1 hx).1 (lookup_none.1 hf)
   | some _=>rfl
  obtain⟨y,hy,hyb⟩:=h.only _ e2 hss
  have hyt:(progBase dir x).toNat=y.1.base.toNat:=by omega
  rw[hyt];rcases List.mem_append.1 hy with hy | hy
  ·rw[hCy y hy]
   have hi:=h.each y hy
   refine⟨by omega,?_,hi.of.ok,?_,fun h=>absurd rfl h⟩
   ·rw[←hi.nm,List.append_nil];exact hi.fl
   ·have:=hi.lo
    rw[Int.toNat_of_nonneg this]
    exact hi.of.up
  ·rw[List.mem_singleton.1 hy,hCz]
   refine⟨by have:=h.zhi;have:=h.zlo;omega,⟨sf,?_⟩,fun b hb=>h.zof.ok b (List.mem_of_mem_take hb),?_,hu⟩
   ·rw[←h.znm,z1,he]
   ·rw[Int.toNat_of_nonneg h.zlo]
    exact rising_take j h.zof.up
 ·obtain⟨d1,k1,q1,q2,q3⟩:=open_segs (s:=s) hj hCz (d.list (dir++[47])) ys [] (d:=d) (k:=k) h he hm (h.listed hsm) (list_nodup h.ok _) (fun x hx=>by
   cases hf:d.find x with
   | none=>exact absurd (list_mem.1 hx).1 (lookup_none.1 hf)
   | some _=>rfl) (fun y hy=>.inl (by
    rw[list_mem];refine⟨Classical.byContradiction fun hn=>?_,h.pre y hy⟩
    rw[show d.find y=none from lookup_none.2 hn] at hy
    cases hy)) hCy
  rw[List.nil_append,List.map_nil] at q3;rw[List.nil_append] at q1;unfold openLg;rcases q3 with ⟨⟨ss,dn,q4⟩,q5⟩ | ⟨⟨dn,q4⟩,q5,⟨sf2,q6⟩,q7⟩
  ·rw[q4,if_neg (by simp)]
   exact⟨d1,_,q2,.inl ⟨rfl,q5,k1,q1⟩⟩
  ·rw[q4,if_pos rfl]
   have hne:ys.map (·.1)++[sgMk z.1.name z.1.base (z.2.take j)]≠[]:=by simp
   have hlast:(⟨dir,most,ys.map (·.1)++[sgMk z.1.name z.1.base (z.2.take j)],0,0,false⟩:Lg).last=sgMk z.1.name z.1.base (z.2.take j):=by unfold Lg.last;simp
   have hzof:SgOf (sgMk z.1.name z.1.base (z.2.take j)) (z.2.take j):=sgMk_of (fun b hb=>h.zof.ok b (List.mem_of_mem_take hb)) (rising_take j h.zof.up)
   simp only
   unfold openMid openEnd;rw[if_neg hne,hlast]
   have hzn:(sgMk z.1.name z.1.base (z.2.take j)).name=z.1.name:=rfl
   rw[hzn];by_cases h14:(d1.sync z.1.name).1=14
   ·rw[sync_14 h14,if_neg (by simp)]
    exact⟨d1,_,q2,.inl ⟨rfl,fun hl=>(at_left (d:=d1) (x:=z.1.name) (g:=fun f=>(0,fun d=>d.turn z.1.name ⟨f.bytes,f.bytes.length⟩)) (fun f=>by simp) (fun f e=>rfl) (q7 hl)).1 h14,k1,q1⟩⟩
   ·have h0:(d1.sync z.1.name).1=0:=by
     have h14':=h14
     unfold Dk.sync Dk.at at h14' ⊢
     by_cases hd:d1.does=false
     ·rw[if_pos hd] at h14';exact absurd rfl h14'
     ·rw[if_neg hd,q6]
    rw[if_pos h0]
    refine⟨_,_,by rw[←q2];exact sync_room _ _,.inr ⟨rfl,?_⟩⟩
    obtain⟨f,hf,hd⟩:=sync_done h0
    rw[q6] at hf;obtain rfl:=Option.some.inj hf
    have hfd:∀ y,(d1.sync z.1.name).2.find y=if y=z.1.name then some ⟨batBs (z.2.take j),(batBs (z.2.take j)).length⟩ else d1.find y:=by
     intro y;rw[hd,find_turn,step_find];by_cases e:y=z.1.name
     ·rw[if_pos e,if_pos e,e,q6]
      rfl
     ·rw[if_neg e,if_neg e]
    have hsome:∀ y,((d1.sync z.1.name).2.find y).isSome=(d1.find y).isSome:=fun y=>by
     rw[hfd];split
     ·next e=>rw[e,q6];rfl
     ·rfl
    have hnz:∀ y∈ys,y.1.name≠z.1.name:=fun y hy e=>by
     obtain⟨a1,a2,a3,_⟩:=h.nm y (List.mem_append_left _ hy)
     rw[a1,h.znm] at e;have q1:=segName_inj (by omega) (by have:=h.zhi;have:=h.zlo;omega) e
     have q2:=hlt y hy
     have:=h.zlo
     omega
    have has:AllSafe (d1.sync z.1.name).2 (sgMk z.1.name z.1.base (z.2.take j),z.2.take j):=by
     unfold AllSafe;show (d1.sync z.1.name).2.find z.1.name=_
     rw[hfd,if_pos rfl]
    have hstop:({ (⟨dir,most,ys.map (·.1)++[sgMk z.1.name z.1.base (z.2.take j)],0,0,false⟩:Lg) with safe:=(⟨dir,most,ys.map (·.1)++[sgMk z.1.name z.1.base (z.2.take j)],0,0,false⟩:Lg).stop }:Lg).stop=(sgMk z.1.name z.1.base (z.2.take j)).next:=by
     unfold Lg.stop;exact congrArg Sg.next hlast
    have hst0:(⟨dir,most,ys.map (·.1)++[sgMk z.1.name z.1.base (z.2.take j)],0,0,false⟩:Lg).stop=(sgMk z.1.name z.1.base (z.2.take j)).next:=by
     unfold Lg.stop;rw[hlast]
    have hline:lined (ys++[((sgMk z.1.name z.1.base (z.2.take j),z.2.take j):SgB)]):=lined_last h.line rfl
    have hof2:∀ x∈ys++[((sgMk z.1.name z.1.base (z.2.take j),z.2.take j):SgB)],SgOf x.1 x.2:=fun x hx=>by
     rcases List.mem_append.1 hx with hx | hx
     ·exact hof x (List.mem_append_left _ hx)
     ·rw[List.mem_singleton.1 hx];exact hzof
    have hhb:(((ys.map (·.1)++[sgMk z.1.name z.1.base (z.2.take j)])[0]?).getD sg0).base=headBase (ys++[((sgMk z.1.name z.1.base (z.2.take j),z.2.take j):SgB)]):=by
     cases ys with
     | nil=>rfl
     | cons a r=>rfl
    have hh0:0≤headBase (ys++[((sgMk z.1.name z.1.base (z.2.take j),z.2.take j):SgB)])∧headBase (ys++[((sgMk z.1.name z.1.base (z.2.take j),z.2.take j):SgB)])≤(sgMk z.1.name z.1.base (z.2.take j)).next:=by
     have hbn:=hzof.base_next
     have hbn:z.1.base≤(sgMk z.1.name z.1.base (z.2.take j)).next:=hbn
     cases ys with
     | nil=>exact⟨h.zlo,hbn⟩
     | cons a r=>
      have h1:=hlt a (by simp)
      have h2:=(h.nm a (by simp)).2.1
      exact⟨h2,by show a.1.base≤_;omega⟩
    have hstart:min (max 0 (((ys.map (·.1)++[sgMk z.1.name z.1.base (z.2.take j)])[0]?).getD sg0).base) (⟨dir,most,ys.map (·.1)++[sgMk z.1.name z.1.base (z.2.take j)],0,0,false⟩:Lg).stop=headBase (ys++[((sgMk z.1.name z.1.base (z.2.take j),z.2.take j):SgB)]):=by
     rw[hhb,hst0];omega
    have hok':(d1.sync z.1.name).2.Ok:=sync_keeps q1.ok _
    refine⟨⟨⟨?_,by simp,fun x hx=>?_,hline,fun n hn hs=>?_,h.kn,hok',fun x hx=>?_,?_⟩,rfl,⟨fun y hy=>?_,has.to ?_⟩⟩,has,fun y hy=>?_,rfl,rfl,hstart,?_⟩
    ·show ys.map (·.1)++[_]=_
     simp
    ·rcases List.mem_append.1 hx with hx | hx
     ·exact (q1.each x hx).other (by rw[hfd,if_neg (hnz x hx)])
     ·rw[List.mem_singleton.1 hx]
      exact⟨hzof,h.znm,h.zlo,h.zhi,_,by show (d1.sync z.1.name).2.find z.1.name=_;rw[hfd,if_pos rfl]⟩
    ·rw[hsome] at hs;obtain⟨x,hx,hxb⟩:=q1.only n hn hs
     rcases List.mem_append.1 hx with hx | hx
     ·exact⟨x,List.mem_append_left _ hx,hxb⟩
     ·exact⟨_,List.mem_append_right _ (List.mem_singleton.2 rfl),by rw[←hxb,List.mem_singleton.1 hx];rfl⟩
    ·show x.1.base≤min _ _
     rw[hstart];cases ys with
     | nil=>obtain rfl:=Option.some.inj hx;exact Int.le_refl _
     | cons a r=>obtain rfl:=Option.some.inj hx;exact Int.le_refl _
    ·show min _ _≤_
     exact Int.min_le_right _ _
    ·unfold AllSafe;rw[hfd,if_neg (hnz y hy)]
     exact q1.all y hy
    ·show (⟨dir,most,ys.map (·.1)++[sgMk z.1.name z.1.base (z.2.take j)],0,0,false⟩:Lg).stop≤_
     rw[hst0,hzof.next];exact Int.le_refl _
    ·rw[hsome] at hy;obtain⟨x,hx,he⟩:=q5 y hy
     rcases List.mem_append.1 hx with hx | hx
     ·exact⟨x,List.mem_append_left _ hx,he⟩
     ·exact⟨_,List.mem_append_right _ (List.mem_singleton.2 rfl),by rw[he,List.mem_singleton.1 hx];rfl⟩
    ·rfl
end Go.Proofs.YtdjmifaidgbbaaaGreatDoor
