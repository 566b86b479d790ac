/-
  The law's world, plain: what was added, what is gone, what may be; beside what a disk has. (Of the logs' seat.)
-/
import Derived.Test.YtdjmifaidgbbaaaGreatDoorT36
set_option linter.unusedVariables false
set_option linter.unusedSimpArgs false
set_option maxHeartbeats 0
set_option maxRecDepth 200000
namespace Go.Proofs.YtdjmifaidgbbaaaGreatDoor
open Go.RowKit Go.Lib
def mkL (js:List Nat) (b:List Bool):List Bool:=js.foldl (fun b j=>b.set j true) b
theorem mkL_len:∀ (js:List Nat) (b:List Bool),(mkL js b).length=b.length
 | [],_=>rfl
 | j::js,b=>by
  show (mkL js (b.set j true)).length=_
  rw[mkL_len js,List.length_set]
theorem mkL_snoc (js:List Nat) (j:Nat) (b:List Bool):mkL (js++[j]) b=(mkL js b).set j true:=by unfold mkL;rw[List.foldl_append];rfl
theorem mkL_get:∀ (js:List Nat) (b:List Bool) (i:Nat),i<b.length→(mkL js b).getD i false=(decide (i∈js)||b.getD i false)
 | [],b,i,_=>by simp[mkL]
 | j::js,b,i,hi=>by
  show (mkL js (b.set j true)).getD i false=_
  rw[mkL_get js _ i (by rw[List.length_set];exact hi)]
  by_cases e:j=i
  ·subst e;simp[List.getD_eq_getElem?_getD,hi]
  ·have e':¬i=j:=fun h=>e h.symm
   simp[List.getD_eq_getElem?_getD,List.getElem?_set,e,e']
def alive (all:List Rec) (gone:List Bool):List Rec:=all.filter fun r=>!(gone.getD r.off.toNat false)
def Offs (all:List Rec):Prop:=∀ i (h:i<all.length),all[i].off=(i:Nat)
theorem Offs.up:∀ {all:List Rec},Offs all→offUp 0 all:=by
 have key:∀ (l:List Rec) (n:Nat),(∀ i (h:i<l.length),l[i].off=((n+i:Nat):Int))→offUp n l:=by
  intro l;induction l with
  | nil=>intro n _;trivial
  | cons a l ih=>
   intro n h;have h0:=h 0 (by simp)
   simp only[List.getElem_cons_zero,Nat.add_zero] at h0
   refine⟨by omega,?_⟩
   have h1:=ih (n+1) (fun i hi=>by
    have h2:=h (i+1) (by simp;omega)
    simp only[List.getElem_cons_succ] at h2
    rw[h2];congr 1
    omega)
   rw[h0];exact h1
 intro all h;exact key all 0 (fun i hi=>by rw[h i hi];simp)
theorem Offs.at {all:List Rec}(h:Offs all) {r:Rec}(hr:r∈all):r.off.toNat<all.length∧(r.off.toNat:Int)=r.off∧all[r.off.toNat]? = some r:=by
 obtain⟨i,hi,rfl⟩:=List.getElem_of_mem hr
 have h1:=h i hi
 have h2:all[i].off.toNat=i:=by omega
 rw[h2];exact⟨hi,by omega,List.getElem?_eq_getElem hi⟩
theorem alive_mem {all:List Rec}{gone:List Bool}{r:Rec}:r∈alive all gone↔r∈all∧gone.getD r.off.toNat false=false:=by
 unfold alive;rw[List.mem_filter];cases gone.getD r.off.toNat false<;>simp
theorem alive_mk {all:List Rec}{gone:List Bool}(h:Offs all)(hl:gone.length=all.length) (js:List Nat):alive all (mkL js gone)=(alive all gone).filter fun r=>!decide (r.off.toNat∈js):=by
 unfold alive;rw[List.filter_filter];refine List.filter_congr fun r hr=>?_
 rw[mkL_get js gone _ (by rw[hl];exact (h.at hr).1),Bool.not_or]
theorem alive_add {all nr:List Rec}{gone:List Bool}{k:Nat}(h:Offs all)(hl:gone.length=all.length)(hn:∀ r∈nr,(all.length:Int)≤r.off):alive (all++nr) (gone++List.replicate k false)=alive all gone++nr:=by
 unfold alive;rw[List.filter_append];congr 1
 ·refine List.filter_congr fun r hr=>?_
  have h1:=(h.at hr).1
  rw[List.getD_eq_getElem?_getD,List.getD_eq_getElem?_getD,List.getElem?_append_left (by omega)]
 ·rw[List.filter_eq_self];intro r hr;have h1:=hn r hr
  rw[List.getD_eq_getElem?_getD,List.getElem?_append_right (by omega)]
  by_cases hk:r.off.toNat-gone.length<k
  ·rw[List.getElem?_replicate,if_pos hk];rfl
  ·rw[List.getElem?_replicate,if_neg hk];rfl
theorem take_offs {all:List Rec}(h:Offs all) (e:Nat):all.take e=all.filter fun r=>decide (r.off<((e:Nat):Int)):=by
 have key:∀ (l:List Rec) (n:Nat),(∀ i (hi:i<l.length),l[i].off=((n+i:Nat):Int))→∀ e,l.take e=l.filter fun r=>decide (r.off<((n+e:Nat):Int)):=by
  intro l;induction l with
  | nil=>intro n _ e;simp
  | cons a l ih=>
   intro n hn e;have h0:=hn 0 (by simp)
   simp only[List.getElem_cons_zero,Nat.add_zero] at h0
   have hr:∀ i (hi:i<l.length),l[i].off=((n+1+i:Nat):Int):=fun i hi=>by
    have h2:=hn (i+1) (by simp;omega)
    simp only[List.getElem_cons_succ] at h2
    rw[h2];congr 1
    omega
   cases e with
   | zero=>
    rw[List.take_zero];symm
    rw[List.filter_eq_nil_iff];intro r hm;obtain⟨i,hi,rfl⟩:=List.getElem_of_mem hm
    rw[hn i hi]
    simp
    omega
   | succ e=>
    rw[List.take_succ_cons,List.filter_cons_of_pos (by rw[h0];simp;omega),ih (n+1) hr e]
    congr 1
    refine List.filter_congr fun r _=>?_
    have:n+1+e=n+(e+1):=by omega
    rw[this]
 have h1:=key all 0 (fun i hi=>by rw[h i hi];simp) e
 rw[h1];simp
theorem alive_take {all:List Rec}{gone:List Bool}(h:Offs all)(hl:gone.length=all.length) (e:Nat):alive (all.take e) (gone.take e)=(alive all gone).filter fun r=>decide (r.off<((e:Nat):Int)):=by
 unfold alive;rw[take_offs h,List.filter_filter,List.filter_filter]
 refine List.filter_congr fun r hr=>?_
 have h1:=h.at hr
 by_cases hlt:r.off<((e:Nat):Int)
 ·rw[List.getD_eq_getElem?_getD,List.getD_eq_getElem?_getD,List.getElem?_take,if_pos (by omega),Bool.and_comm]
 ·rw[decide_eq_false hlt,Bool.and_false,Bool.false_and]
theorem Offs.take {all:List Rec}(h:Offs all) (e:Nat):Offs (all.take e):=fun i hi=>by
 rw[List.getElem_take];exact h i _
theorem Offs.alive {all:List Rec}(h:Offs all) (gone:List Bool):offUp 0 (alive all gone):=offUp_filter _ h.up
def RecUp (all:List Rec) (gone:List Bool) (b:Int) (T:List Rec):Prop:=T=(alive all gone).filter (ge b)
structure RecDn (all:List Rec) (gone may:List Bool) (b:Int) (T:List Rec):Prop where
 sub:T.Sublist ((alive all gone).filter (ge b))
 out:∀ r∈alive all gone,b≤r.off→r ∉ T→may.getD r.off.toNat false=true
theorem RecUp.dn {all:List Rec}{gone:List Bool}{b:Int}{T:List Rec}(h:RecUp all gone b T) (may:List Bool):RecDn all gone may b T:=by
 unfold RecUp at h;subst h;refine⟨List.Sublist.refl _,fun r hr hb hn=>?_⟩
 exact absurd (List.mem_filter.2 ⟨hr,decide_eq_true hb⟩) hn
theorem RecDn.mark {all:List Rec}{gone may:List Bool}{b:Int}{T:List Rec}(h:RecDn all gone may b T)(hO:Offs all)(hm:may.length=all.length) (js:List Nat):RecDn all gone (mkL js may) b T:=by
 refine⟨h.sub,fun r hr hb hn=>?_⟩
 rw[mkL_get js may _ (by rw[hm];exact (hO.at (alive_mem.1 hr).1).1),h.out r hr hb hn,Bool.or_true]
theorem ge_ge {b b':Int}(h:b≤b') (l:List Rec):(l.filter (ge b)).filter (ge b')=l.filter (ge b'):=by
 rw[List.filter_filter];refine List.filter_congr fun r _=>?_
 unfold ge;by_cases h1:b'≤r.off
 ·rw[decide_eq_true h1,decide_eq_true (by omega:b≤r.off)];rfl
 ·rw[decide_eq_false h1,Bool.false_and]
theorem RecUp.later {all:List Rec}{gone:List Bool}{b b':Int}{T:List Rec}(h:RecUp all gone b T)(hb:b≤b'):RecUp all gone b' (T.filter (ge b')):=by
 unfold RecUp at h ⊢
 rw[h,ge_ge hb]
theorem headBase_drop {xs:List SgB}{k:Nat}(h:k<xs.length):headBase (xs.drop k)=xs[k].1.base:=by
 rw[List.drop_eq_getElem_cons h]
 rfl
theorem drop_recs {xs:List SgB}(hof:∀ x∈xs,SgOf x.1 x.2)(hl:lined xs) {k:Nat}(hk:k<xs.length):recsOf (allBts (xs.drop k))=(recsOf (allBts xs)).filter (ge (headBase (xs.drop k))):=by
 have e:allBts xs=allBts (xs.take k)++allBts (xs.drop k):=by rw[←allBts_append,List.take_append_drop]
 have hok:∀ b∈allBts xs,b.Ok:=fun b hb=>by
  obtain⟨x,hx,hb⟩:=List.mem_flatMap.1 hb
  exact (hof x hx).ok b hb
 rw[headBase_drop hk]
 have h1:recsFrom xs[k].1.base (allBts (xs.take k))=[]:=recsFrom_low (fun b hb=>hok b (by rw[e];exact List.mem_append_left _ hb)) (fun b hb=>by
  obtain⟨x,hx,hb⟩:=List.mem_flatMap.1 hb
  have h2:=lined_take hof hl k hk x hx
  have h3:=hof x (List.mem_of_mem_take hx)
  have h4:=(lastEnd_le h3.ok h3.up).2 b hb
  rw[←h3.next] at h4;omega)
 have hl2:lined (xs.drop k):=by
  have key:∀ (xs:List SgB) (k:Nat),lined xs→lined (xs.drop k):=by
   intro xs;induction xs with
   | nil=>intro k _;rw[List.drop_nil];trivial
   | cons a r ih=>
    intro k h;cases k with
    | zero=>exact h
    | succ k=>
     rw[List.drop_succ_cons];refine ih k ?_
     cases r with
     | nil=>trivial
     | cons b r=>exact h.2.2
  exact key xs k hl
 have h2:recsFrom xs[k].1.base (allBts (xs.drop k))=recsOf (allBts (xs.drop k)):=by
  have hof2:∀ x∈xs.drop k,SgOf x.1 x.2:=fun x hx=>hof x (List.mem_of_mem_drop hx)
  have hu:=lined_up (n:=xs[k].1.base) hof2 hl2 (fun x hx=>by
   rw[List.drop_eq_getElem_cons hk] at hx
   obtain rfl:=Option.some.inj hx
   exact Int.le_refl _)
  obtain⟨u1,u2⟩:=chainUp_rising hof2 hu
  exact recsFrom_high u2 (rising_mem u2 u1)
 show _=recsFrom _ _
 rw[e,recsFrom_append,h1,h2,List.nil_append]
theorem headBase_le {xs:List SgB}(hof:∀ x∈xs,SgOf x.1 x.2)(hl:lined xs) {k:Nat}(hk:k<xs.length):headBase xs≤headBase (xs.drop k):=by
 rw[headBase_drop hk]
 cases k with
 | zero=>
  cases xs with
  | nil=>exact absurd hk (Nat.not_lt_zero _)
  | cons a r=>exact Int.le_refl _
 | succ k=>
  cases xs with
  | nil=>exact absurd hk (Nat.not_lt_zero _)
  | cons a r=>
   have h1:=lined_take hof hl (k+1) hk a (by simp)
   have h2:=(hof a (by simp)).base_next
   show a.1.base≤_
   omega
theorem snoc_drop {ys:List SgB}{z:SgB}{k:Nat}(h:k≤ys.length):(ys++[z]).drop k=ys.drop k++[z]:=List.drop_append_of_le_length h
theorem DropR.recs {d d':Dk}{g g2:Lg}{ys:List SgB}{z:SgB}{k:Nat}(h:DropR d g ys z k d' g2)(h0:Up0 d g ys z) {all:List Rec}{gone:List Bool}(hr:RecUp all gone (headBase (ys++[z])) (recsOf (allBts (ys++[z])))):RecUp all gone (headBase (ys.drop k++[z])) (recsOf (allBts (ys.drop k++[z]))):=by
 have hk:k<(ys++[z]).length:=by have:=h.kle;rw[List.length_append,List.length_singleton];omega
 rw[←snoc_drop h.kle,drop_recs h0.ok.of h0.ok.line hk]
 exact hr.later (headBase_le h0.ok.of h0.ok.line hk)
theorem batBs_all_drop (xs:List SgB) (k:Nat):(batBs (allBts (xs.drop k))).length≤(batBs (allBts xs)).length:=by
 have e:allBts xs=allBts (xs.take k)++allBts (xs.drop k):=by rw[←allBts_append,List.take_append_drop]
 rw[e,batBs_append,List.length_append];omega
theorem used_all {d:Dk}{dir:Nm}:∀ (fs:List (Nm×Fl)) (xs:List SgB),(fs.map (·.1)).Nodup→(∀ p∈fs,∃ x∈xs,p.1=x.1.name∧p.2.bytes.length≤(batBs x.2).length)→(fs.map fun p=>p.2.bytes.length).sum≤(batBs (allBts xs)).length∧fs.length≤xs.length
 | [],xs,_,_=>⟨Nat.zero_le _,Nat.zero_le _⟩
 | p::r,xs,hn,h=>by
  rw[List.map_cons,List.nodup_cons] at hn;obtain⟨x,hx,hp,hl⟩:=h p (List.mem_cons_self ..)
  obtain⟨a,b,rfl⟩:=List.append_of_mem hx
  obtain⟨h1,h2⟩:=used_all (d:=d) (dir:=dir) r (a++b) hn.2 (fun q hq=>by
   obtain⟨y,hy,hq1,hq2⟩:=h q (List.mem_cons_of_mem _ hq)
   refine⟨y,?_,hq1,hq2⟩
   rw[List.mem_append,List.mem_cons] at hy;rcases hy with hy | rfl | hy
   ·exact List.mem_append_left _ hy
   ·exfalso
    apply hn.1
    rw[hp,←hq1];exact List.mem_map_of_mem (f:=(·.1)) hq
   ·exact List.mem_append_right _ hy)
  rw[allBts_append,allBts_cons,batBs_append,batBs_append,List.length_append,List.length_append];rw[allBts_append,batBs_append,List.length_append] at h1;rw[List.length_append] at h2;simp only[List.map_cons,List.sum_cons,List.length_cons,List.length_append]
  omega
theorem Up0.used {d:Dk}{g:Lg}{ys:List SgB}{z:SgB}(h:Up0 d g ys z)(hO:OnlyF d (ys++[z])):d.used≤(batBs (allBts (ys++[z]))).length∧d.fs.length≤ys.length+1:=by
 have key:=used_all (d:=d) (dir:=g.dir) d.fs (ys++[z]) h.ok.ok.nodup (fun p hp=>by
  have hf:d.find p.1=some p.2:=lookup_mem h.ok.ok.nodup (by cases p;exact hp)
  obtain⟨x,hx,he⟩:=hO p.1 (by rw[hf];rfl)
  obtain⟨sf,hs⟩:=(h.ok.each x hx).fl
  rw[←he,hf] at hs;refine⟨x,hx,he,?_⟩
  rw[Option.some.inj hs]
  exact Nat.le_refl _)
 rw[List.length_append,List.length_singleton] at key;exact key
structure Wd where
 all:List Rec
 gone:List Bool
 may:List Bool
 ends:List Int
 safe:Int
 start:Int
 down:Bool
def Wd.note (W:Wd) (g:Lg):Wd:={ W with ends:=W.ends++[g.stop],safe:=max W.safe g.safe,start:=g.start }
def Wd.fell (W:Wd):Wd:={ W with down:=true }
structure WC (W:Wd) (d:Dk) (g:Lg) (ys:List SgB) (z:SgB) (m:Nat):Prop where
 up:Up0 d g ys z
 pre:PreF d g.dir
 dir:g.dir=[112]
 room:d.room=1048576
 offs:Offs W.all
 gl:W.gone.length=W.all.length
 ml:W.may.length=W.all.length
 stop:g.stop=(W.all.length:Nat)
 recs:RecDn W.all W.gone W.may (headBase (ys++[z])) (recsOf (allBts (ys++[z])))
 gm:∀ i,i<W.all.length→W.gone.getD i false=true→W.may.getD i false=true
 ends:EndsIn z W.safe W.ends
 safe:W.safe≤g.safe
 tot:(batBs (allBts (ys++[z]))).length≤6000*m
 segs:ys.length≤m
 many:W.all.length≤60*m
 few:W.ends.length≤m+1
 rok:∀ r∈W.all,Rec.Ok r
structure WUp (W:Wd) (d:Dk) (g:Lg) (ys:List SgB) (z:SgB) (m:Nat):Prop where
 c:WC W d g ys z m
 only:OnlyF d (ys++[z])
 recs:RecUp W.all W.gone (headBase (ys++[z])) (recsOf (allBts (ys++[z])))
 dn:W.down=false
theorem WC.more {W:Wd}{d:Dk}{g:Lg}{ys:List SgB}{z:SgB}{m m':Nat}(h:WC W d g ys z m)(hm:m≤m'):WC W d g ys z m':=
 ⟨h.up,h.pre,h.dir,h.room,h.offs,h.gl,h.ml,h.stop,h.recs,h.gm,h.ends,h.safe,by have:=h.tot;omega,by have:=h.segs;omega,by have:=h.many;omega,by have:=h.few;omega,h.rok⟩
theorem WC.fell {W:Wd}{d:Dk}{g:Lg}{ys:List SgB}{z:SgB}{m:Nat}(h:WC W d g ys z m):WC W.fell d g ys z m:=
 ⟨h.up,h.pre,h.dir,h.room,h.offs,h.gl,h.ml,h.stop,h.recs,h.gm,h.ends,h.safe,h.tot,h.segs,h.many,h.few,h.rok⟩
theorem EndsIn.weak {z:SgB}{ws ws':Int}{ends ends':List Int}(h:EndsIn z ws ends)(h1:ws≤ws')(h2:∀ e∈ends,e∈ends'):EndsIn z ws' ends':=fun m hm hw=>h2 _ (h m hm (Int.le_trans h1 hw))
theorem WUp.cap {W:Wd}{d:Dk}{g:Lg}{ys:List SgB}{z:SgB}{m:Nat}(h:WUp W d g ys z m)(hm:m≤62):d.fs.length<200∧d.used+6000≤d.room∧2*d.used≤d.room:=by
 obtain⟨h1,h2⟩:=h.c.up.used h.only
 have:=h.c.tot
 have:=h.c.segs
 have:=h.c.room
 omega
theorem WC.noted {W:Wd}{d:Dk}{g:Lg}{ys:List SgB}{z:SgB}{m:Nat}(h:WC W d g ys z m):WC (W.note g) d g ys z (m+1):=
 ⟨h.up,h.pre,h.dir,h.room,h.offs,h.gl,h.ml,h.stop,h.recs,h.gm,h.ends.weak (Int.le_max_left _ _) (fun e he=>List.mem_append_left _ he),by have:=h.safe;show max _ _≤_;omega,by have:=h.tot;omega,by have:=h.segs;omega,by have:=h.many;show W.all.length≤_;omega,by have:=h.few;show (W.ends++[g.stop]).length≤_;rw[List.length_append,List.length_singleton];omega,h.rok⟩
theorem WUp.noted {W:Wd}{d:Dk}{g:Lg}{ys:List SgB}{z:SgB}{m:Nat}(h:WUp W d g ys z m):WUp (W.note g) d g ys z (m+1):=⟨h.c.noted,h.only,h.recs,h.dn⟩
def WRes (W W1:Wd) (m:Nat) (e:Nat) (d':Dk) (g':Lg):Prop:=
 (e=0∧∃ ys' z',WUp (W1.note g') d' g' ys' z' (m+1))∨(e=14∧g'.down=true∧∃ g2 ys' z',WC W d' g2 ys' z' (m+1))
theorem WUp.flush {W:Wd}{d:Dk}{g:Lg}{ys:List SgB}{z:SgB}{m:Nat}(h:WUp W d g ys z m):WRes W W m (flushLg d g).1 (flushLg d g).2.1 (flushLg d g).2.2:=by
 rcases flush_up h.c.up with e | ⟨d',e,u,_,_,_,r,o⟩
 ·rw[e];exact .inr ⟨rfl,rfl,g,ys,z,h.c.more (Nat.le_succ _)⟩
 ·rw[e];have hO:OnlyF d' (ys++[z]):=fun y hy=>h.only y (by rw[←o];exact hy)
  have hc:WC W d' { g with safe:=g.stop } ys z m:=⟨u,hO.pre u.ok,h.c.dir,by rw[r];exact h.c.room,h.c.offs,h.c.gl,h.c.ml,h.c.stop,h.c.recs,h.c.gm,h.c.ends,Int.le_trans h.c.safe h.c.up.safe_le,h.c.tot,h.c.segs,h.c.many,h.c.few,h.c.rok⟩
  exact .inl ⟨rfl,ys,z,(WUp.mk hc hO h.recs h.dn).noted⟩
theorem WUp.dropped {W:Wd}{d d':Dk}{g g2:Lg}{ys:List SgB}{z:SgB}{m k:Nat}(h:WUp W d g ys z m)(hd:DropR d g ys z k d' g2):WUp W d' g2 (ys.drop k) z m:=by
 have hO:=hd.only h.only
 have hr:=hd.recs h.c.up h.recs
 have ht:(batBs (allBts (ys.drop k++[z]))).length≤6000*m:=by
  rw[←snoc_drop hd.kle]
  exact Nat.le_trans (batBs_all_drop _ _) h.c.tot
 exact⟨⟨hd.up,hO.pre hd.up.ok,by rw[hd.dir];exact h.c.dir,by rw[hd.room];exact h.c.room,h.c.offs,h.c.gl,h.c.ml,by rw[hd.stop];exact h.c.stop,hr.dn _,h.c.gm,h.c.ends,by rw[hd.safe];exact h.c.safe,ht,by have:=h.c.segs;rw[List.length_drop];omega,h.c.many,h.c.few,h.c.rok⟩,hO,hr,h.dn⟩
theorem WUp.forget {W:Wd}{d:Dk}{g:Lg}{ys:List SgB}{z:SgB}{m:Nat}(h:WUp W d g ys z m) {tg:Int}(h0:0≤tg)(h1:tg≤W.all.length):WRes W W m (forgetLg tg d g).1 (forgetLg tg d g).2.1 (forgetLg tg d g).2.2:=by
 obtain⟨k,d',g2,k1,_,k3⟩:=forget_up h.c.up h0 (by rw[h.c.stop];exact h1)
 have h2:=h.dropped k1
 rcases k3 with e | e<;>rw[e]
 ·exact .inl ⟨rfl,_,_,h2.noted⟩
 ·exact .inr ⟨rfl,rfl,g2,_,_,h2.c.more (Nat.le_succ _)⟩
theorem WUp.retain {W:Wd}{d:Dk}{g:Lg}{ys:List SgB}{z:SgB}{m:Nat}(h:WUp W d g ys z m) (now age bytes:Int):WRes W W m (retLg now age bytes d g).1 (retLg now age bytes d g).2.2.1 (retLg now age bytes d g).2.2.2:=by
 have hnd:¬g.down=true:=by rw[h.c.up.up];simp
 obtain⟨k,d',g2,n',k1,_,k3⟩:=ret_up (now:=now) (age:=age) (bytes:=bytes) g.segs.length 0 ys h.c.up
 have h2:=h.dropped k1
 unfold retLg;rw[if_neg hnd]
 rcases k3 with e | e<;>rw[e]
 ·exact .inl ⟨rfl,_,_,h2.noted⟩
 ·exact .inr ⟨rfl,rfl,g2,_,_,h2.c.more (Nat.le_succ _)⟩
def Wd.add (W:Wd) (rs:List Rec):Wd:={ W with all:=W.all++numbered (W.all.length:Nat) rs,gone:=W.gone++List.replicate rs.length false,may:=W.may++List.replicate rs.length false }
theorem numbered_at':∀ (rs:List Rec) (b:Int) (i:Nat)(h:i<(numbered b rs).length),(numbered b rs)[i].off=b+(i:Nat)
 | [],_,i,h=>absurd h (by simp[numbered])
 | r::rs,b,0,h=>by simp[numbered]
 | r::rs,b,i+1,h=>by
  have h1:=numbered_at' rs (b+1) i (by simpa [numbered] using h)
  simp only[numbered,List.getElem_cons_succ]
  rw[h1];omega
theorem numbered_len':∀ (rs:List Rec) (b:Int),(numbered b rs).length=rs.length
 | [],_=>rfl
 | r::rs,b=>by simp[numbered,numbered_len' rs]
theorem enc_codes (base en:Int) (rs:List Rec):encErr base en rs≠6∧encErr base en rs≠14:=by
 have hc:∀ (l:List Rec) (last:Int),checkRecs en last l=0∨checkRecs en last l=1∨checkRecs en last l=2∨checkRecs en last l=4:=by
  intro l;induction l with
  | nil=>intro last;exact .inl rfl
  | cons r l ih=>
   intro last;unfold checkRecs;split
   ·exact .inr (.inl rfl)
   ·split
    ·exact .inr (.inr (.inr rfl))
    ·split
     ·exact .inr (.inr (.inl rfl))
     ·exact ih _
 have hb:checkB base en rs=0∨checkB base en rs=1∨checkB base en rs=2∨checkB base en rs=4:=by
  unfold checkB;split
  ·exact .inr (.inr (.inl rfl))
  ·split
   ·exact .inr (.inl rfl)
   ·split
    ·exact .inr (.inr (.inr rfl))
    ·exact hc _ _
 unfold encErr;split
 ·omega
 ·split<;>omega
theorem LgOk.stop_head {d:Dk}{g:Lg}{xs:List SgB}(h:LgOk d g xs):headBase xs≤g.stop:=by
 obtain⟨ys,z,rfl,_⟩:=h.lastAt
 cases ys with
 | nil=>
  have h1:=h.next_le z (by simp)
  have h2:=(h.of z (by simp)).base_next
  show z.1.base≤_
  omega
 | cons a r=>
  have h1:=h.next_le a (by simp)
  have h2:=(h.of a (by simp)).base_next
  show a.1.base≤_
  omega
theorem WUp.addR {W:Wd}{d:Dk}{g:Lg}{ys:List SgB}{z:SgB}{m:Nat}(h:WUp W d g ys z m)(hm:m≤62) (rs:List Rec)(hl:rs.length≤60)(hok:∀ r∈rs,Rec.Ok r) :
  (∃ e,e≠0∧e≠6∧e≠14∧addLg d g rs=(e,d,g))∨(WRes W (W.add rs) m (addLg d g rs).1 (addLg d g rs).2.1 (addLg d g rs).2.2):=by
 have hmany:=h.c.many
 have hst:=h.c.stop
 have hnum:∀ r∈(g.batch rs).rs,Rec.Ok r:=numbered_ok' (by rw[hst];omega) (by rw[hst];omega) hok
 obtain⟨c1,c2,_⟩:=h.cap hm
 obtain⟨k1,k2⟩:=add_up h.c.up rs hnum c1 c2
 by_cases he:encErr (g.batch rs).base (g.batch rs).en (g.batch rs).rs=0
 ·right
  rcases k2 he with ⟨d',g',g2,ys',z',e,a⟩ | ⟨d',g',ys',z',e,a⟩
  ·rw[e];have hO:=a.only h.only
   refine .inr ⟨rfl,a.down,g2,ys',z',⟨a.up,hO.pre a.up.ok,by rw[a.dir];exact h.c.dir,?_,h.c.offs,h.c.gl,h.c.ml,by rw[a.stop];exact hst,by rw[a.head,a.all];exact h.c.recs,h.c.gm,a.ends _ _ h.c.ends,Int.le_trans h.c.safe a.safe,by rw[a.all];have:=h.c.tot;omega,?_,by have:=h.c.many;omega,by have:=h.c.few;omega,h.c.rok⟩⟩
   ·rw[a.room];exact h.c.room
   ·have:=a.segs
    have:=h.c.segs
    omega
  ·rw[e];have hb:(g.batch rs).Ok:=⟨he,hnum⟩
   have hO:=a.only h.only
   have hbl:=hb.nums.len
   have hbase:(g.batch rs).base=(W.all.length:Nat):=hst
   have hoffs:Offs (W.all++numbered (W.all.length:Nat) rs):=fun i hi=>by
    by_cases hil:i<W.all.length
    ·rw[List.getElem_append_left hil];exact h.c.offs i hil
    ·rw[List.getElem_append_right (by omega),numbered_at']
     omega
   have hrecs:RecUp (W.add rs).all (W.add rs).gone (headBase (ys'++[z'])) (recsOf (allBts (ys'++[z']))):=by
    unfold RecUp Wd.add;rw[a.all,a.head,recsOf_append,alive_add h.c.offs h.c.gl (fun r hr=>by
     obtain⟨i,hi,rfl⟩:=List.getElem_of_mem hr
     rw[numbered_at'];omega),List.filter_append]
    congr 1
    ·exact h.recs
    ·have e1:recsOf [g.batch rs]=numbered (W.all.length:Nat) rs:=by
      rw[recsOf_cons];show numbered g.stop rs++recsOf []=_
      rw[hst];simp[recsOf]
     rw[e1];symm
     rw[List.filter_eq_self];intro r hr;obtain⟨i,hi,rfl⟩:=List.getElem_of_mem hr
     unfold ge;rw[numbered_at'];have hhb:=h.c.up.ok.stop_head
     rw[hst] at hhb;exact decide_eq_true (by omega)
   refine .inl ⟨rfl,ys',z',⟨⟨a.up,hO.pre a.up.ok,by rw[a.dir];exact h.c.dir,by rw[a.room];exact h.c.room,hoffs,?_,?_,?_,hrecs.dn _,?_,?_,?_,?_,?_,?_,?_,?_⟩,hO,hrecs,h.dn⟩⟩
   ·show (W.gone++_).length=(W.all++_).length
    rw[List.length_append,List.length_append,List.length_replicate,numbered_len',h.c.gl]
   ·show (W.may++_).length=(W.all++_).length
    rw[List.length_append,List.length_append,List.length_replicate,numbered_len',h.c.ml]
   ·rw[a.stop];show g.stop+rs.length=(((W.all++_).length:Nat):Int)
    rw[List.length_append,numbered_len',hst];omega
   ·intro i hi hg;have hi:i<(W.all++numbered (W.all.length:Nat) rs).length:=hi
    have hg:(W.gone++List.replicate rs.length false).getD i false=true:=hg
    show (W.may++List.replicate rs.length false).getD i false=true
    by_cases hil:i<W.all.length
    ·have h1:(W.gone++List.replicate rs.length false).getD i false=W.gone.getD i false:=by
      rw[List.getD_eq_getElem?_getD,List.getD_eq_getElem?_getD,List.getElem?_append_left (by rw[h.c.gl];exact hil)]
     have h2:(W.may++List.replicate rs.length false).getD i false=W.may.getD i false:=by
      rw[List.getD_eq_getElem?_getD,List.getD_eq_getElem?_getD,List.getElem?_append_left (by rw[h.c.ml];exact hil)]
     rw[h2];exact h.c.gm i hil (by rw[←h1];exact hg)
    ·exfalso
     rw[List.getD_eq_getElem?_getD,List.getElem?_append_right (by rw[h.c.gl];omega)] at hg
     rw[List.length_append,numbered_len'] at hi;rw[List.getElem?_replicate,if_pos (by rw[h.c.gl];omega)] at hg
     cases hg
   ·show EndsIn z' (max W.safe g'.safe) (W.ends++[g'.stop])
    have h1:=a.ends _ _ h.c.ends
    rw[←a.stop] at h1;exact h1.weak (Int.le_max_left _ _) (fun _ h=>h)
   ·have:=h.c.safe
    have:=a.safe
    show max W.safe g'.safe≤g'.safe
    omega
   ·rw[a.all,batBs_append,List.length_append];have e1:(batBs [g.batch rs]).length=(g.batch rs).bytes.length:=by rw[batBs_cons];simp[batBs]
    rw[e1];have:=h.c.tot
    omega
   ·have:=a.segs
    have:=h.c.segs
    omega
   ·show (W.all++numbered _ rs).length≤_
    rw[List.length_append,numbered_len'];omega
   ·show (W.ends++[_]).length≤_
    rw[List.length_append,List.length_singleton];have:=h.c.few
    omega
   ·intro r hr;rcases List.mem_append.1 hr with hr | hr
    ·exact h.c.rok r hr
    ·refine hnum r ?_
     show r∈numbered g.stop rs
     rw[hst];exact hr
 ·left
  have hcd:=enc_codes (g.batch rs).base (g.batch rs).en (g.batch rs).rs
  exact⟨_,he,hcd.1,hcd.2,k1 he⟩
def outC (W:Wd) (lim:Int) (j:Nat):Bool:=match W.all[j]? with
 | some r=>!(W.gone.getD j false)&&goneR (lastOf (alive W.all W.gone)) lim r
 | none=>false
def outL (W:Wd) (lim:Int) (n:Nat):List Nat:=(List.range (min W.all.length n)).filter (outC W lim)
def Wd.mayGo (W:Wd) (js:List Nat):Wd:={ W with may:=mkL js W.may }
def Wd.goes (W:Wd) (js:List Nat):Wd:={ W with may:=mkL js W.may,gone:=mkL js W.gone }
theorem outL_lt {W:Wd}{lim:Int}{n:Nat}:∀ j∈outL W lim n,j<W.all.length∧j<n:=fun j hj=>by
 have h1:=List.mem_range.1 (List.mem_filter.1 hj).1
 omega
theorem WC.mayGo {W:Wd}{d:Dk}{g:Lg}{ys:List SgB}{z:SgB}{m:Nat}(h:WC W d g ys z m) (js:List Nat):WC (W.mayGo js) d g ys z m:=
 ⟨h.up,h.pre,h.dir,h.room,h.offs,h.gl,by show (mkL js W.may).length=_;rw[mkL_len];exact h.ml,h.stop,h.recs.mark h.offs h.ml js,fun i hi hg=>by
  show (mkL js W.may).getD i false=true
  have hi:i<W.all.length:=hi
  rw[mkL_get js _ i (by rw[h.ml];exact hi),h.gm i hi hg,Bool.or_true],h.ends,h.safe,h.tot,h.segs,h.many,h.few,h.rok⟩
theorem last_same {A:List Rec}{b n:Int}(hu:offUp n A) {r:Rec}(hr:r∈A.filter (ge b))(hk:r.keyed=true):(lastOf A).lookup r.key.data.toList=(lastOf (A.filter (ge b))).lookup r.key.data.toList:=by
 have hrA:=(List.mem_filter.1 hr).1
 have hrb:b≤r.off:=of_decide_eq_true (List.mem_filter.1 hr).2
 have huT:offUp n (A.filter (ge b)):=offUp_filter _ hu
 obtain⟨m,h1,h2⟩:=lastOf_max _ hu r hrA hk
 obtain⟨y,y1,y2,y3,y4⟩:=lastOf_some _ h1
 have hyT:y∈A.filter (ge b):=List.mem_filter.2 ⟨y1,decide_eq_true (by omega)⟩
 obtain⟨m2,h3,h4⟩:=lastOf_max _ huT y hyT y2
 rw[y3] at h3;obtain⟨x,x1,x2,x3,x4⟩:=lastOf_some _ h3
 obtain⟨m3,h5,h6⟩:=lastOf_max _ hu x (List.mem_filter.1 x1).1 x2
 rw[x3,h1] at h5;have h5:=Option.some.inj h5
 rw[h1,h3];congr 1
 omega
theorem Partly.facts {p:Rec→Bool}:∀ {xs xs':List SgB},Partly p xs xs'→(recsOf (allBts xs')).Sublist (recsOf (allBts xs))∧(∀ r∈recsOf (allBts xs),p r=true→r∈recsOf (allBts xs'))∧(batBs (allBts xs')).length≤(batBs (allBts xs)).length∧xs'.length=xs.length∧∀ z:SgB,headBase (xs'++[z])=headBase (xs++[z])
 | _,_,.nil=>⟨List.Sublist.refl _,fun r hr _=>hr,Nat.le_refl _,rfl,fun _=>rfl⟩
 | _,_,.same (x:=x) (xs:=xs) (zs:=zs) h=>by
  obtain⟨h1,h2,h3,h4,h5⟩:=h.facts
  refine⟨?_,fun r hr hp=>?_,?_,by simp[h4],fun _=>rfl⟩
  ·rw[allBts_cons,allBts_cons,recsOf_append,recsOf_append];exact List.Sublist.append (List.Sublist.refl _) h1
  ·rw[allBts_cons,recsOf_append] at hr ⊢
   rcases List.mem_append.1 hr with hr | hr
   ·exact List.mem_append_left _ hr
   ·exact List.mem_append_right _ (h2 r hr hp)
  ·rw[allBts_cons,allBts_cons,batBs_append,batBs_append,List.length_append,List.length_append];omega
 | _,_,.less (x:=x) (y:=y) (xs:=xs) (zs:=zs) hb he h=>by
  obtain⟨h1,h2,h3,h4,h5⟩:=h.facts
  refine⟨?_,fun r hr hp=>?_,?_,by simp[h4],fun _=>hb⟩
  ·rw[allBts_cons,allBts_cons,recsOf_append,recsOf_append,he,recsOf_keep];exact List.Sublist.append List.filter_sublist h1
  ·rw[allBts_cons,recsOf_append] at hr ⊢
   rcases List.mem_append.1 hr with hr | hr
   ·exact List.mem_append_left _ (by rw[he,recsOf_keep];exact List.mem_filter.2 ⟨hr,hp⟩)
   ·exact List.mem_append_right _ (h2 r hr hp)
  ·rw[allBts_cons,allBts_cons,batBs_append,batBs_append,List.length_append,List.length_append,he];have:=keep_len (p:=p) x.2
   omega
theorem WUp.same_out {W:Wd}{d:Dk}{g:Lg}{ys:List SgB}{z:SgB}{m:Nat}(h:WUp W d g ys z m) (lim:Int) :
  (∀ r∈recsOf (allBts ys),keepR (lastOf (recsOf (allBts (ys++[z])))) lim r = !decide (r.off.toNat∈outL W lim z.1.base.toNat))∧
  (∀ r∈recsOf z.2,decide (r.off.toNat∈outL W lim z.1.base.toNat)=false):=by
 have hT:=h.recs
 unfold RecUp at hT;have hz:=h.c.up.ok.each z (by simp)
 have hz0:=hz.lo
 refine⟨fun r hr=>?_,fun r hr=>?_⟩
 ·have hrT:r∈(alive W.all W.gone).filter (ge (headBase (ys++[z]))):=by
   rw[←hT,allBts_append,recsOf_append];exact List.mem_append_left _ hr
  have hrA:=alive_mem.1 (List.mem_filter.1 hrT).1
  obtain⟨o1,o2,o3⟩:=h.c.offs.at hrA.1
  have hlt:r.off<z.1.base:=by
   obtain⟨b,hb,hr2⟩:=List.mem_flatMap.1 hr
   obtain⟨x,hx,hb⟩:=List.mem_flatMap.1 hb
   have hxo:=h.c.up.ok.of x (List.mem_append_left _ hx)
   have h1:=((hxo.ok b hb).offs r hr2).2
   have h2:=(lastEnd_le hxo.ok hxo.up).2 b hb
   rw[←hxo.next] at h2;have h3:=(lined_before h.c.up.ok.of h.c.up.ok.line x hx).1
   omega
  have hmem:decide (r.off.toNat∈outL W lim z.1.base.toNat)=goneR (lastOf (alive W.all W.gone)) lim r:=by
   have h1:r.off.toNat∈outL W lim z.1.base.toNat↔outC W lim r.off.toNat=true:=by
    unfold outL;rw[List.mem_filter,List.mem_range];constructor
    ·exact fun h=>h.2
    ·exact fun h=>⟨by omega,h⟩
   have h2:outC W lim r.off.toNat=goneR (lastOf (alive W.all W.gone)) lim r:=by
    unfold outC;rw[o3];simp only
    rw[hrA.2];rfl
   rw[←h2];by_cases h3:outC W lim r.off.toNat=true
   ·rw[decide_eq_true (h1.2 h3),h3]
   ·rw[decide_eq_false (fun h4=>h3 (h1.1 h4))]
    simpa using h3
  rw[hmem];unfold keepR;congr 1
  rw[hT];unfold goneR;by_cases hk:r.keyed=true
  ·rw[last_same (h.c.offs.alive W.gone) hrT hk]
  ·rw[show r.keyed=false by simpa using hk]
   rfl
 ·refine decide_eq_false fun hj=>?_
  have h1:=(outL_lt _ hj).2
  obtain⟨b,hb,hr2⟩:=List.mem_flatMap.1 hr
  have h2:=((hz.of.ok b hb).offs r hr2).1
  have h3:=rising_mem hz.of.ok hz.of.up b hb
  omega
theorem kn_new:∀ n:Nat,n≤1099511627776→dkName (segName [112] n++dotnew)=true:=fun n hn=>(seg_ok n hn 112 (by decide)).2
theorem WUp.comp {W:Wd}{d:Dk}{g:Lg}{ys:List SgB}{z:SgB}{m:Nat}(h:WUp W d g ys z m)(hm:m≤62) (now age:Int) :
  WRes (W.mayGo (outL W (wrap64 (now-age)) z.1.base.toNat)) (W.goes (outL W (wrap64 (now-age)) z.1.base.toNat)) m (compLg now age (ys++[z]) d g).1 (compLg now age (ys++[z]) d g).2.2.1 (compLg now age (ys++[z]) d g).2.2.2:=by
 obtain⟨s1,s2⟩:=h.same_out (wrap64 (now-age))
 obtain⟨js,hjs⟩:∃ js,outL W (wrap64 (now-age)) z.1.base.toNat=js:=⟨_,rfl⟩
 rw[hjs] at s1 s2 ⊢
 obtain⟨p,hp⟩:∃ p,keepR (lastOf (recsOf (allBts (ys++[z])))) (wrap64 (now-age))=p:=⟨_,rfl⟩
 rw[hp] at s1;unfold compLg;rw[hp,show (ys++[z]).take ((ys++[z]).length-1)=ys by simp]
 have hT:=h.recs
 unfold RecUp at hT;rcases flush_up h.c.up with e | ⟨d1,e,u,_,n1,l1,r1,o1⟩
 ·rw[e,if_neg (by simp)]
  exact .inr ⟨rfl,rfl,g,ys,z,(h.c.mayGo js).more (Nat.le_succ _)⟩
 ·rw[e,if_pos rfl]
  have hO:OnlyF d1 (ys++[z]):=fun y hy=>h.only y (by rw[←o1];exact hy)
  obtain⟨c1,c2,c3⟩:=h.cap hm
  obtain⟨xs',d',g2,e1,e2,e3,e4,e5⟩:=comp_up (p:=p) (z:=z) ys [] 0 u (by omega) (by rw[r1];omega) (fun n hn=>by show dkName (segName g.dir n++dotnew)=true;rw[h.c.dir];exact kn_new n hn) (by exact hO.pre u.ok)
  rw[List.nil_append] at e2;obtain⟨f1,f2,f3,f4,f5⟩:=e1.facts
  have hdir:g2.dir=g.dir:=e3.dir
  have hsafe:g.safe≤g2.safe:=by rw[e3.safe];exact h.c.up.safe_le
  have htot:(batBs (allBts (xs'++[z]))).length≤6000*m:=by
   have h1:=h.c.tot
   rw[allBts_append,batBs_append,List.length_append] at h1 ⊢
   omega
  have hsub:(recsOf (allBts (xs'++[z]))).Sublist (recsOf (allBts (ys++[z]))):=by
   rw[allBts_append,allBts_append,recsOf_append,recsOf_append];exact List.Sublist.append f1 (List.Sublist.refl _)
  have hzz:allBts [z]=z.2:=by simp[allBts]
  simp only[List.length_nil] at e5
  rcases e5 with ⟨q1,q2,q3,q4,q5⟩ | ⟨n',g',q1,q2,q3⟩
  ·rw[q1];simp only[List.nil_append] at q5
   have hO2:OnlyF d' (xs'++[z]):=q5 hO
   have hrec:RecUp (W.goes js).all (W.goes js).gone (headBase (xs'++[z])) (recsOf (allBts (xs'++[z]))):=by
    show recsOf (allBts (xs'++[z]))=(alive W.all (mkL js W.gone)).filter (ge (headBase (xs'++[z])))
    rw[alive_mk h.c.offs h.c.gl,List.filter_filter,f5 z]
    have e6:(alive W.all W.gone).filter (fun r=>ge (headBase (ys++[z])) r && !decide (r.off.toNat∈js))=(recsOf (allBts (ys++[z]))).filter (fun r=>!decide (r.off.toNat∈js)):=by
     rw[hT,List.filter_filter];exact List.filter_congr fun r _=>Bool.and_comm _ _
    rw[e6,allBts_append,allBts_append,recsOf_append,recsOf_append,List.filter_append,q2,recsOf_keep,hzz];congr 1
    ·exact List.filter_congr fun r hr=>s1 r hr
    ·symm
     rw[List.filter_eq_self];intro r hr;rw[s2 r hr]
     rfl
   have hlen:(mkL js W.gone).length=W.all.length:=by rw[mkL_len];exact h.c.gl
   refine .inl ⟨rfl,xs',z,(WUp.mk (W:=W.goes js) ⟨e2,by rw[hdir];exact e4,by rw[hdir];exact h.c.dir,by rw[e3.room,r1];exact h.c.room,h.c.offs,hlen,by show (mkL js W.may).length=_;rw[mkL_len];exact h.c.ml,by rw[e3.stop];exact h.c.stop,hrec.dn _,fun i hi hg=>?_,h.c.ends,Int.le_trans h.c.safe hsafe,htot,by rw[f4];exact h.c.segs,h.c.many,h.c.few,h.c.rok⟩ hO2 hrec h.dn).noted⟩
   have hi:i<W.all.length:=hi
   have hg:(mkL js W.gone).getD i false=true:=hg
   show (mkL js W.may).getD i false=true
   rw[mkL_get js _ i (by rw[h.c.gl];exact hi)] at hg
   rw[mkL_get js _ i (by rw[h.c.ml];exact hi)]
   simp only[Bool.or_eq_true] at hg ⊢
   exact hg.imp id (fun h1=>h.c.gm i hi h1)
  ·rw[q1];refine .inr ⟨rfl,q2,g2,xs',z,⟨e2,by rw[hdir];exact e4,by rw[hdir];exact h.c.dir,by rw[e3.room,r1];exact h.c.room,h.c.offs,h.c.gl,by show (mkL js W.may).length=_;rw[mkL_len];exact h.c.ml,by rw[e3.stop];exact h.c.stop,⟨?_,fun r hr hb hn=>?_⟩,((h.c.mayGo js).gm),h.c.ends,Int.le_trans h.c.safe hsafe,by omega,by have:=h.c.segs;omega,by have:=h.c.many;show W.all.length≤_;omega,by have:=h.c.few;show W.ends.length≤_;omega,h.c.rok⟩⟩
   ·rw[f5 z]
    show (recsOf (allBts (xs'++[z]))).Sublist ((alive W.all W.gone).filter _)
    rw[←hT];exact hsub
   ·show (mkL js W.may).getD r.off.toNat false=true
    have hr:r∈alive W.all W.gone:=hr
    have hrT:r∈recsOf (allBts (ys++[z])):=by
     rw[hT];refine List.mem_filter.2 ⟨hr,decide_eq_true ?_⟩
     rw[f5 z] at hb
     exact hb
    have hlt:=(h.c.offs.at (alive_mem.1 hr).1).1
    rw[mkL_get js _ _ (by rw[h.c.ml];exact hlt)]
    rw[allBts_append,recsOf_append] at hrT;rcases List.mem_append.1 hrT with hrT | hrT
    ·have h1:=s1 r hrT
     have h2:p r=false:=by
      cases hpr:p r with
      | false=>rfl
      | true=>
       exfalso
       apply hn
       rw[allBts_append,recsOf_append];exact List.mem_append_left _ (f2 r hrT hpr)
     rw[h2] at h1;have h3:decide (r.off.toNat∈js)=true:=by simpa using h1.symm
     rw[h3,Bool.true_or]
    ·exfalso
     apply hn
     rw[allBts_append,recsOf_append];exact List.mem_append_right _ hrT
end Go.Proofs.YtdjmifaidgbbaaaGreatDoor
