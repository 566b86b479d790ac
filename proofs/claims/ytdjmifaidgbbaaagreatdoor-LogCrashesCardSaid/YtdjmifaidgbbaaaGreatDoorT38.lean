/-
  The law's world at a crash, and at a look, plain. (Of the logs' seat.)
-/
import Derived.Test.YtdjmifaidgbbaaaGreatDoorT37
set_option linter.unusedVariables false
set_option linter.unusedSimpArgs false
set_option maxHeartbeats 0
set_option maxRecDepth 200000
namespace Go.Proofs.YtdjmifaidgbbaaaGreatDoor
open Go.RowKit Go.Lib
def missing (T:List Rec) (i:Nat):Bool:=!(T.any fun r=>decide (r.off=(i:Nat)))
def missL (b e:Nat) (T:List Rec):List Nat:=(List.range' b (e-b)).filter (missing T)
def Wd.seen (W:Wd) (js:List Nat):Wd:={ W with gone:=mkL js W.gone }
structure LooksOk (W:Wd) (b:Nat) (T:List Rec):Prop where
 up:offUp (b:Nat) T
 lt:∀ r∈T,r.off<(W.all.length:Nat)
 at':∀ i,b≤i→i<W.all.length→(missing T i=false∧W.gone.getD i false=false)∨(missing T i=true∧W.may.getD i false=true)
 same:∀ r∈T,W.all[r.off.toNat]? = some r
theorem missing_true {T:List Rec}{i:Nat}:missing T i=true↔∀ r∈T,r.off≠(i:Nat):=by
 unfold missing;rw[Bool.not_eq_true',List.any_eq_false];exact⟨fun h r hr e=>h r hr (decide_eq_true e),fun h r hr e=>h r hr (of_decide_eq_true e)⟩
theorem missing_false {T:List Rec}{i:Nat}:missing T i=false↔∃ r∈T,r.off=(i:Nat):=by
 constructor
 ·intro h;refine Classical.byContradiction fun hn=>?_
  have h1:missing T i=true:=missing_true.2 fun r hr e=>hn ⟨r,hr,e⟩
  rw[h] at h1;cases h1
 ·rintro⟨r,hr,e⟩
  cases hm:missing T i with
  | false=>rfl
  | true=>exact absurd e (missing_true.1 hm r hr)
theorem sub_filter {q:Rec→Bool}:∀ {T X:List Rec},T.Sublist X→X.Nodup→(∀ r∈X,q r=true↔r∈T)→T=X.filter q
 | _,_,.slnil,_,_=>rfl
 | T,_,.cons (l₂:=X) x h,hn,hq=>by
  rw[List.nodup_cons] at hn;have hx:¬q x=true:=fun e=>hn.1 (h.subset ((hq x (List.mem_cons_self ..)).1 e))
  rw[List.filter_cons_of_neg hx]
  exact sub_filter h hn.2 (fun r hr=>hq r (List.mem_cons_of_mem _ hr))
 | _,_,.cons_cons (l₁:=T) (l₂:=X) x h,hn,hq=>by
  rw[List.nodup_cons] at hn;rw[List.filter_cons_of_pos ((hq x (List.mem_cons_self ..)).2 (List.mem_cons_self ..))]
  congr 1
  refine sub_filter h hn.2 (fun r hr=>?_)
  rw[hq r (List.mem_cons_of_mem _ hr),List.mem_cons]
  exact⟨fun h1=>h1.resolve_left (fun e=>hn.1 (e ▸ hr)),.inr⟩
theorem offUp_nodup:∀ {n:Int}{l:List Rec},offUp n l→l.Nodup
 | _,[],_=>List.nodup_nil
 | _,a::l,h=>List.nodup_cons.2 ⟨fun hm=>by have:=offUp_mem h.2 a hm;omega,offUp_nodup h.2⟩
set_option linter.unusedSectionVars false
section
variable {W:Wd} {b:Nat} {T:List Rec} (hO:Offs W.all) (hg:W.gone.length=W.all.length) (hr:RecDn W.all W.gone W.may (b:Nat) T) (hgm:∀ i,i<W.all.length→W.gone.getD i false=true→W.may.getD i false=true)
include hO hg hr hgm
theorem looks_of:LooksOk W b T:=by
 have hin:∀ r∈T,r∈alive W.all W.gone∧(b:Int)≤r.off:=fun r h=>by
  have h1:=List.mem_filter.1 (hr.sub.subset h)
  exact⟨h1.1,of_decide_eq_true h1.2⟩
 have hup:offUp (b:Nat) ((alive W.all W.gone).filter (ge (b:Nat))):=by
  have h1:=offUp_filter (ge (b:Nat)) (hO.alive W.gone)
  have key:∀ (l:List Rec) (n:Int),offUp n l→(∀ r∈l,(b:Int)≤r.off)→offUp (b:Nat) l:=by
   intro l;cases l with
   | nil=>intro _ _ _;trivial
   | cons a l=>intro n h h2;exact⟨h2 a (List.mem_cons_self ..),h.2⟩
  exact key _ _ h1 (fun r h=>of_decide_eq_true (List.mem_filter.1 h).2)
 refine⟨offUp_sub hr.sub hup,fun r h=>?_,fun i hb hi=>?_,fun r h=>(hO.at (alive_mem.1 (hin r h).1).1).2.2⟩
 ·have h1:=hO.at (alive_mem.1 (hin r h).1).1
  omega
 ·cases hm:missing T i with
  | false=>
   left
   obtain⟨r,h1,h2⟩:=missing_false.1 hm
   have h3:=(alive_mem.1 (hin r h1).1).2
   rw[h2,Int.toNat_natCast] at h3;exact⟨rfl,h3⟩
  | true=>
   right
   refine⟨rfl,?_⟩
   cases hgi:W.gone.getD i false with
   | true=>exact hgm i hi hgi
   | false=>
    have hoi:=hO i hi
    have h1:W.all[i]∈alive W.all W.gone:=alive_mem.2 ⟨List.getElem_mem hi,by rw[hoi,Int.toNat_natCast];exact hgi⟩
    have h2:=hr.out _ h1 (by rw[hoi];omega) (fun hT=>missing_true.1 hm _ hT hoi)
    rw[hoi,Int.toNat_natCast] at h2;exact h2
theorem looks_up:RecUp W.all (mkL (missL b W.all.length T) W.gone) (b:Nat) T:=by
 have hL:=looks_of hO hg hr hgm
 unfold RecUp;rw[alive_mk hO hg,List.filter_filter]
 have e1:(alive W.all W.gone).filter (fun r=>ge (b:Nat) r && !decide (r.off.toNat∈missL b W.all.length T))=((alive W.all W.gone).filter (ge (b:Nat))).filter (fun r=>!decide (r.off.toNat∈missL b W.all.length T)):=by
  rw[List.filter_filter];exact List.filter_congr fun r _=>Bool.and_comm _ _
 rw[e1];refine sub_filter hr.sub (offUp_nodup (offUp_filter (ge (b:Nat)) (hO.alive W.gone))) (fun r hX=>?_)
 obtain⟨hA,hb⟩:=List.mem_filter.1 hX
 have hb:(b:Int)≤r.off:=of_decide_eq_true hb
 obtain⟨o1,o2,o3⟩:=hO.at (alive_mem.1 hA).1
 have hmem:r.off.toNat∈missL b W.all.length T↔missing T r.off.toNat=true:=by
  unfold missL;rw[List.mem_filter,List.mem_range'_1];exact⟨fun h=>h.2,fun h=>⟨by omega,h⟩⟩
 rw[Bool.not_eq_true',decide_eq_false_iff_not,hmem];constructor
 ·intro h;have h1:missing T r.off.toNat=false:=by simpa using h
  obtain⟨x,hx,hxo⟩:=missing_false.1 h1
  have h2:=hL.same x hx
  rw[hxo,Int.toNat_natCast,o3] at h2;rw[Option.some.inj h2]
  exact hx
 ·intro h h1;exact missing_true.1 h1 r h o2.symm
theorem looks_gm (hm:W.may.length=W.all.length):∀ i,i<W.all.length→(mkL (missL b W.all.length T) W.gone).getD i false=true→W.may.getD i false=true:=by
 have hL:=looks_of hO hg hr hgm
 intro i hi h;rw[mkL_get _ _ i (by rw[hg];exact hi),Bool.or_eq_true] at h
 rcases h with h | h
 ·have h1:=List.mem_filter.1 (of_decide_eq_true h)
  have h2:=List.mem_range'_1.1 h1.1
  rcases hL.at' i (by omega) hi with ⟨h3,_⟩ | ⟨_,h3⟩
  ·rw[h1.2] at h3;cases h3
  ·exact h3
 ·exact hgm i hi h
end
structure WK (W:Wd) (d:Dk) (ys:List SgB) (z:SgB) (m:Nat):Prop where
 kp:∃ k s,Kp d [112] ys z k s∧W.safe≤s
 room:d.room=1048576
 offs:Offs W.all
 gl:W.gone.length=W.all.length
 ml:W.may.length=W.all.length
 stop:z.1.next=(W.all.length:Nat)
 recs:RecDn W.all W.gone W.may (headBase (ys++[z])) (recsOf (allBts (ys++[z])))
 gm:∀ i,i<W.all.length→W.gone.getD i false=true→W.may.getD i false=true
 ends:EndsIn z W.safe W.ends
 tot:(batBs (allBts (ys++[z]))).length≤6000*m
 segs:ys.length≤m
 many:W.all.length≤60*m
 few:W.ends.length≤m+1
 rok:∀ r∈W.all,Rec.Ok r
theorem WC.wk {W:Wd}{d:Dk}{g:Lg}{ys:List SgB}{z:SgB}{m:Nat}(h:WC W d g ys z m):WK W d ys z m:=by
 refine⟨⟨(batBs z.2).length,g.safe,?_,h.safe⟩,h.room,h.offs,h.gl,h.ml,by rw[←h.up.ok.lastZ.2.1];exact h.stop,h.recs,h.gm,h.ends,h.tot,h.segs,h.many,h.few,h.rok⟩
 have h1:=h.up.kp h.pre
 rw[h.dir] at h1;exact h1
theorem WK.crash {W:Wd}{d:Dk}{ys:List SgB}{z:SgB}{m:Nat}(h:WK W d ys z m) (fates:List UInt8):WK W (d.crash fates) ys z m∧(d.crash fates).left = -1:=by
 obtain⟨k,s,h1,h2⟩:=h.kp
 obtain⟨k',c1,c2,c3⟩:=h1.crash fates
 exact⟨⟨⟨k',s,c1,h2⟩,by rw[c3];exact h.room,h.offs,h.gl,h.ml,h.stop,h.recs,h.gm,h.ends,h.tot,h.segs,h.many,h.few,h.rok⟩,c2⟩
theorem WK.failed {W:Wd}{d:Dk}{ys:List SgB}{z:SgB}{m:Nat}(h:WK W d ys z m) {n:Int}(hn:-1≤n∧n≤9223372036854775807):WK W { d with left:=n } ys z m:=by
 obtain⟨k,s,h1,h2⟩:=h.kp
 exact⟨⟨k,s,h1.failed hn,h2⟩,h.room,h.offs,h.gl,h.ml,h.stop,h.recs,h.gm,h.ends,h.tot,h.segs,h.many,h.few,h.rok⟩
def Wd.cutAt (W:Wd) (e:Nat):Wd:={ W with all:=W.all.take e,gone:=W.gone.take e,may:=W.may.take e }
def Wd.anew (W:Wd) (e:Nat) (b:Int):Wd:={ W with ends:=[(e:Int)],safe:=e,start:=b,down:=false }
theorem getD_take {l:List Bool}{e i:Nat}(h:i<e):(l.take e).getD i false=l.getD i false:=by
 rw[List.getD_eq_getElem?_getD,List.getD_eq_getElem?_getD,List.getElem?_take,if_pos h]
structure WOpen (W:Wd) (d':Dk) (g':Lg) (ys:List SgB) (z':SgB) (m:Nat) (e b:Nat):Prop where
 stop:g'.stop=(e:Nat)
 start:g'.start=(b:Nat)
 be:b≤e
 safe:W.safe≤(e:Nat)
 mem:(e:Int)∈W.ends
 le:e≤W.all.length
 look:LooksOk (W.cutAt e) b (recsOf (allBts (ys++[z'])))
 up:WUp (((W.cutAt e).seen (missL b e (recsOf (allBts (ys++[z']))))).anew e (b:Nat)) d' g' ys z' m
theorem WK.opened {W:Wd}{d:Dk}{ys:List SgB}{z:SgB}{m:Nat}(h:WK W d ys z m)(hm:m≤62) {j:Nat}(hj:j≤z.2.length)(hs:W.safe≤lastEnd z.1.base (z.2.take j)) {most:Int}{d':Dk}{g':Lg}
  (hroom:d'.room=d.room)(ho:OpenZ [112] most ys z (sgMk z.1.name z.1.base (z.2.take j),z.2.take j) d' g') :
  ∃ e b:Nat,WOpen W d' g' ys (sgMk z.1.name z.1.base (z.2.take j),z.2.take j) m e b:=by
 obtain⟨k,s,kp,_⟩:=h.kp
 have hzo:SgOf (sgMk z.1.name z.1.base (z.2.take j)) (z.2.take j):=sgMk_of (fun b hb=>kp.zof.ok b (List.mem_of_mem_take hb)) (rising_take j kp.zof.up)
 have hst:g'.stop=lastEnd z.1.base (z.2.take j):=by
  rw[ho.up.ok.lastZ.2.1];exact hzo.next
 have hle0:z.1.base≤lastEnd z.1.base (z.2.take j):=(lastEnd_le hzo.ok hzo.up).1
 have hle:lastEnd z.1.base (z.2.take j)≤(W.all.length:Nat):=by
  have h1:=lastEnd_mono kp.zof.ok kp.zof.up hj
  rw[List.take_length,←kp.zof.next,h.stop] at h1;exact h1
 have hz0:=kp.zlo
 obtain⟨e,he⟩:∃ e:Nat,lastEnd z.1.base (z.2.take j)=(e:Nat):=⟨(lastEnd z.1.base (z.2.take j)).toNat,by omega⟩
 rw[he] at hst hle hs hle0
 obtain⟨z',hz'⟩:∃ z':SgB,(sgMk z.1.name z.1.base (z.2.take j),z.2.take j)=z':=⟨_,rfl⟩
 have hz1:z'.1.base=z.1.base:=by rw[←hz'];rfl
 have hz2:z'.2=z.2.take j:=by rw[←hz']
 rw[hz'] at ho ⊢
 have hhb:headBase (ys++[z'])=headBase (ys++[z]):=(head_snoc ys z z' z hz1).1
 have hb0:0≤headBase (ys++[z]):=by
  cases ys with
  | nil=>exact hz0
  | cons a r=>exact (kp.each a (List.mem_cons_self ..)).lo
 obtain⟨b,hb⟩:∃ b:Nat,headBase (ys++[z])=(b:Nat):=⟨(headBase (ys++[z])).toNat,by omega⟩
 have hstart:g'.start=(b:Nat):=by rw[ho.start,hhb,hb]
 have hbe:b≤e:=by
  have h1:=ho.up.ok.hi
  rw[hstart,hst] at h1;omega
 have hel:e≤W.all.length:=by omega
 have hall:allBts (ys++[z])=allBts (ys++[z'])++z.2.drop j:=by
  rw[allBts_append,allBts_append,List.append_assoc];congr 1
  have e1:allBts [z]=z.2:=by simp[allBts]
  have e2:allBts [z']=z'.2:=by simp[allBts]
  rw[e1,e2,hz2,List.take_append_drop]
 have hT:recsOf (allBts (ys++[z']))=(recsOf (allBts (ys++[z]))).filter fun r=>decide (r.off<((e:Nat):Int)):=by
  rw[hall,recsOf_append,List.filter_append];have h1:(recsOf (allBts (ys++[z']))).filter (fun r=>decide (r.off<((e:Nat):Int)))=recsOf (allBts (ys++[z'])):=by
   rw[List.filter_eq_self];intro r hr;obtain⟨bt,hbt,h2,h3⟩:=recsOf_offs ho.up.ok.bts.2 r hr
   obtain⟨x,hx,hbt⟩:=List.mem_flatMap.1 hbt
   have h4:=ho.up.ok.of x hx
   have h5:=(lastEnd_le h4.ok h4.up).2 bt hbt
   rw[←h4.next] at h5;have h6:=ho.up.ok.next_le x hx
   rw[hst] at h6;exact decide_eq_true (by omega)
  have h2:(recsOf (z.2.drop j)).filter (fun r=>decide (r.off<((e:Nat):Int)))=[]:=by
   rw[List.filter_eq_nil_iff];intro r hr;have hup:rising (lastEnd z.1.base (z.2.take j)) (z.2.drop j):=(rising_app (z.2.take j) (z.2.drop j) _ (by rw[List.take_append_drop];exact kp.zof.up)).2
   have hok:∀ x∈z.2.drop j,x.Ok:=fun x hx=>kp.zof.ok x (List.mem_of_mem_drop hx)
   obtain⟨bt,hbt,h3,h4⟩:=recsOf_offs hok r hr
   have h5:=rising_mem hok hup bt hbt
   rw[he] at h5;simp only[decide_eq_true_eq]
   omega
  rw[h1,h2,List.append_nil]
 have hr1:RecDn (W.cutAt e).all (W.cutAt e).gone (W.cutAt e).may (b:Nat) (recsOf (allBts (ys++[z']))):=by
  refine⟨?_,fun r hr hbr hn=>?_⟩
  ·show (recsOf (allBts (ys++[z']))).Sublist ((alive (W.all.take e) (W.gone.take e)).filter (ge (b:Nat)))
   rw[alive_take h.offs h.gl,List.filter_filter,hT]
   have h1:=(h.recs.sub).filter (fun r=>decide (r.off<((e:Nat):Int)))
   rw[List.filter_filter,hb] at h1;have e1:(alive W.all W.gone).filter (fun r=>decide (r.off<((e:Nat):Int))&&ge (b:Nat) r)=(alive W.all W.gone).filter (fun r=>ge (b:Nat) r&&decide (r.off<((e:Nat):Int))):=List.filter_congr fun r _=>Bool.and_comm _ _
   rw[e1] at h1;exact h1
  ·have hr:r∈alive (W.all.take e) (W.gone.take e):=hr
   rw[alive_take h.offs h.gl] at hr
   obtain⟨h1,h2⟩:=List.mem_filter.1 hr
   have h2:r.off<(e:Nat):=of_decide_eq_true h2
   have h3:=h.recs.out r h1 (by rw[hb];exact hbr) (fun h4=>hn (by rw[hT];exact List.mem_filter.2 ⟨h4,decide_eq_true h2⟩))
   show (W.may.take e).getD r.off.toNat false=true
   rw[getD_take (by omega)]
   exact h3
 have hO1:Offs (W.cutAt e).all:=h.offs.take e
 have hlen:(W.cutAt e).all.length=e:=by show (W.all.take e).length=e;rw[List.length_take];omega
 have hg1:(W.cutAt e).gone.length=(W.cutAt e).all.length:=by rw[hlen];show (W.gone.take e).length=e;rw[List.length_take,h.gl];omega
 have hm1:(W.cutAt e).may.length=(W.cutAt e).all.length:=by rw[hlen];show (W.may.take e).length=e;rw[List.length_take,h.ml];omega
 have hgm1:∀ i,i<(W.cutAt e).all.length→(W.cutAt e).gone.getD i false=true→(W.cutAt e).may.getD i false=true:=fun i hi hg=>by
  rw[hlen] at hi;have hg:(W.gone.take e).getD i false=true:=hg
  rw[getD_take hi] at hg
  show (W.may.take e).getD i false=true
  rw[getD_take hi]
  exact h.gm i (by omega) hg
 have hup:=looks_up hO1 hg1 hr1 hgm1
 have hgm2:=looks_gm hO1 hg1 hr1 hgm1 hm1
 rw[hlen] at hup hgm2
 have hO:OnlyF d' (ys++[z']):=ho.only
 have hgl2:(mkL (missL b e (recsOf (allBts (ys++[z'])))) (W.cutAt e).gone).length=(W.cutAt e).all.length:=by rw[mkL_len];exact hg1
 have hends:EndsIn z' (e:Nat) [(e:Int)]:=fun i hi hw=>by
  rw[hz1,hz2] at hw ⊢
  have hok2:∀ x∈z.2.take j,x.Ok:=fun x hx=>kp.zof.ok x (List.mem_of_mem_take hx)
  rw[hz2] at hi;have h1:=lastEnd_mono (n:=z.1.base) hok2 (rising_take j kp.zof.up) hi
  rw[List.take_length,he] at h1;exact List.mem_singleton.2 (by omega)
 have hsafe:((e:Nat):Int)≤g'.safe:=by rw[ho.stop,hst];exact Int.le_refl _
 have hmem:(e:Int)∈W.ends:=by
  have h1:=h.ends j hj (by rw[he];exact hs)
  rw[he] at h1;exact h1
 have htot:(batBs (allBts (ys++[z']))).length≤6000*m:=by
  have h1:=h.tot
  rw[hall,batBs_append,List.length_append] at h1;omega
 refine⟨e,b,⟨hst,hstart,hbe,hs,hmem,hel,looks_of hO1 hg1 hr1 hgm1,WUp.mk ⟨ho.up,hO.pre ho.up.ok,ho.dir,by rw[hroom];exact h.room,hO1,hgl2,hm1,?_,?_,fun i hi=>hgm2 i (by rw[←hlen];exact hi),hends,hsafe,htot,h.segs,?_,?_,fun r hr=>h.rok r (List.mem_of_mem_take hr)⟩ hO ?_ rfl⟩⟩
 ·rw[hst];show ((e:Nat):Int)=(((W.cutAt e).all.length:Nat):Int)
  rw[hlen]
 ·rw[hhb,hb];exact hup.dn _
 ·show (W.cutAt e).all.length≤_
  rw[hlen];have:=h.many
  omega
 ·show[(e:Int)].length≤_
  simp
 ·rw[hhb,hb];exact hup
open Go.Maps
theorem lopen_any {B:Nat→Prop} {w:World} {p:Nat} {S:Nat→Prop} {d:Dk} (h:DsS B w p S d) (hT:TabE w) (hTB:TabEB B) (dir:List UInt8) (hdir:dir.length≤100) (most:Int) (hm:100≤most∧most≤1048576) (n:Nat) (hn:n≤1099511627776) (C:Nat→List Bt×List UInt8)
  (hC:∀ x∈d.list (dir++[47]),¬progBase dir x<0→FdOk d dir (progBase dir x).toNat (C (progBase dir x).toNat)) :
  Calls Tryz.prog 10 #[.pointer (some ⟨p,0,none⟩),.string ⟨dir.toArray⟩,.int .i64 most,.int .i64 (n:Nat)] w fun e w'=>LOpenAt B w w' p (openLg C dir most n d) e:=by
 have h1:¬most<100:=by omega
 have h2:¬(1048576:Int)<most:=by omega
 have h3:¬(n:Int)<0:=by omega
 have h4:¬(1099511627776:Int)<(n:Int):=by omega
 have HH:=Lib.hid h
 have HT:=Lib.hid hT
 have HTB:=Lib.hid hTB
 have HN:=Lib.hid hn
 have HDI:=Lib.hid hdir
 have HLI:Hid (∀ w',Chg Nil w w'→∀ bg:ByteArray,bg.data.toList=dir++[47]→Calls Tryz.prog 49 #[.pointer (some ⟨p,0,none⟩),.string bg] w' fun e w''=>∃ v,e = .returned v∧OwnS w'.heap.size w'' v (d.list (dir++[47]))∧Chg Nil w' w''):=fun w' hw bg hbg=>by
  have h1:=list_known (h.nil hw).a bg
  rw[hbg] at h1;exact h1
 obtain⟨names,hnames⟩:∃ names,d.list (dir++[47])=names:=⟨_,rfl⟩
 have hsh:∀ x∈names,x.length≤40:=fun x hx=>h.a.ok.short x (list_mem.1 (hnames ▸ hx)).1
 have hnd:names.Nodup:=by rw[←hnames];exact list_nodup h.a.ok _
 have hln:names.length≤200:=by rw[←hnames];exact Nat.le_trans (list_len _ _) h.a.ok.few
 rw[hnames] at HLI hC
 have HSH:=Lib.hid hsh
 have HND:=Lib.hid hnd
 have HLN:=Lib.hid hln
 obtain⟨RG,hRG⟩:∃ RG,openGo dir C names d [] false=RG:=⟨_,rfl⟩
 have HRL:Hid (openLg C dir most n d=if RG.1=0 then openMid n RG.2.1 ⟨dir,most,RG.2.2.1,0,0,false⟩ else (RG.1,RG.2.1,⟨dir,most,[],0,0,false⟩)):=by
  unfold Hid openLg;rw[hnames,hRG]
 obtain⟨RL,hRL⟩:∃ RL,openLg C dir most n d=RL:=⟨_,rfl⟩
 rw[hRL] at HRL ⊢
 have HO0:Hid (OpnR C dir most names 0 d ⟨dir,most,[],0,0,false⟩ RG):=⟨rfl,rfl,rfl,rfl,hRG,hC,fun s hs=>by (cases hs)⟩
 have hov:¬maxLen<(ByteArray.mk dir.toArray).size+1:=by
  have e:(ByteArray.mk dir.toArray).size=dir.length:=by show dir.toArray.size=_;simp
  rw[e];unfold maxLen;omega
 clear h hT hTB hn hC hnames hsh hnd hln hRG hRL hm hdir;go_enter Tryz.func10,Tryz.ntmps10
 go_wp2_with fail;have hbx:Box (w.alloc (.cells #[.pointer (some ⟨p,0,none⟩),.string ⟨dir.toArray⟩,.int .i64 most,.slice none 0 0,.int .i64 0,.int .i64 0,.bool false] 99)) w.heap.size [.pointer (some ⟨p,0,none⟩),.string ⟨dir.toArray⟩,.int .i64 most,.slice none 0 0,.int .i64 0,.int .i64 0,.bool false] 99:=Box.new _ _ _
 have hal:Chg Nil w (w.alloc (.cells #[.pointer (some ⟨p,0,none⟩),.string ⟨dir.toArray⟩,.int .i64 most,.slice none 0 0,.int .i64 0,.int .i64 0,.bool false] 99)):=(Chg.refl Nil w).alloc _
 have hsz1:(w.alloc (.cells #[.pointer (some ⟨p,0,none⟩),.string ⟨dir.toArray⟩,.int .i64 most,.slice none 0 0,.int .i64 0,.int .i64 0,.bool false] 99)).heap.size=w.heap.size+1:=by simp
 generalize w.alloc (.cells #[.pointer (some ⟨p,0,none⟩),.string ⟨dir.toArray⟩,.int .i64 most,.slice none 0 0,.int .i64 0,.int .i64 0,.bool false] 99)=w1 at *;obtain⟨l,hl⟩:∃ l,w.heap.size=l:=⟨_,rfl⟩
 have HL:=Lib.hid hl
 have HL1:Hid (w1.heap.size=l+1):=by unfold Hid;omega
 rw[hl] at hbx ⊢
 have HAL:=Lib.hid hal
 have HBX:=Lib.hid hbx
 clear hl hsz1 hal hbx h1 h2 h3 h4 hov;refine (HLI.out w1 HAL.out _ ?hb).mono ?_
 case hb=>first | rfl | simp
 rintro e w2 ⟨nv,rfl,hnv,hc2⟩
 have HC2:Hid (Chg Nil w w2):=HAL.out.trans hc2 (fun _ h=>h.elim)
 have HB2:Hid (∀ k,nv.ownBlock=some k→l+1≤k∧k<w2.heap.size):=fun k hk=>by
  have h9:=hnv.own hk
  have h8:=HL1.out
  omega
 obtain⟨B2,hB2⟩:∃ B2:Nat→Prop,B2=fun k=>B k∨nv.ownBlock=some k:=⟨_,rfl⟩
 have HBB:Hid (∀ k,B k→B2 k):=fun k hk=>by rw[hB2];exact .inl hk
 have HBN:Hid (∀ k,nv.ownBlock=some k→B2 k):=fun k hk=>by rw[hB2];exact .inr hk
 have HLG2:Hid (LgS B2 w2 p l S (.slice none 0 0) [] d ⟨dir,most,[],0,0,false⟩):=by
  have hz:=HC2.out.size
  have hl:=HL.out
  have hds:=HH.out.nil HC2.out
  have hL:∀ k,LHas l (.slice none 0 0) k→k=l:=fun k hk=>hk.elim id (fun e=>by cases e)
  refine⟨fun k hk=>?_,hds.a,HBX.out.chg hc2 (fun h=>h),World.ownsRow_nil _ _ _ _,rfl,fun i hi=>absurd hi (Nat.not_lt_zero _),fun k hk=>⟨fun hb=>?_,fun hk2=>?_,fun ht=>?_,(hds.sl k hk).2⟩,fun k hk=>⟨fun hb=>?_,fun ht=>?_⟩,fun k ht=>?_,fun i j hi=>absurd hi (Nat.not_lt_zero _)⟩
  ·rw[hB2] at hk;rcases hk with hk | hk
   ·exact hds.lo k hk
   ·exact (HB2.out k hk).2
  ·rw[hB2] at hb;rcases hb with hb | hb
   ·exact (hds.sl k hk).1 hb
   ·have:=(HB2.out k hb).1
    have:=(HH.out.sl k hk).2
    omega
  ·have:=hL k hk2
   have:=(HH.out.sl k hk).2
   omega
  ·obtain⟨x,hx,_⟩:=ht
   cases hx
  ·rw[hB2] at hb;have:=hL k hk
   rcases hb with hb | hb
   ·have:=HH.out.lo k hb
    omega
   ·have:=(HB2.out k hb).1
    omega
  ·obtain⟨x,hx,_⟩:=ht
   cases hx
  ·obtain⟨x,hx,_⟩:=ht
   cases hx
 have HT2:Hid (TabE w2):=HT.out.chg HC2.out
 have HTB2:Hid (TabEB B2):=fun m hm k hk=>HBB.out k (HTB.out m hm k hk)
 have HNV:=Lib.hid hnv
 obtain⟨na,nc,hne,hcell⟩:=hnv.vals
 have HCELL:=Lib.hid hcell
 have HNE:=Lib.hid hne
 subst hne;have HC2B:Hid (Chg (Off B) w w2):=HC2.out.weak (fun _ h=>h.elim)
 clear hnv hc2 hB2 hcell HB2 HLI HBX HAL HH HT;have hnlt:(names.length:Int)≤200:=by have:=HLN.out;omega
 go_wp2_with fail;go_loopw [48] (fun iv wr=>∃ (wq:World) (i:Nat) (S':Nat→Prop) (sv:Value) (ss:List (Nat×Value)) (d':Dk) (g:Lg),wq=wr∧iv = .int .i64 (i:Nat)∧Hid (i≤names.length)∧LgS B2 wr p l S' sv ss d' g∧Hid (ss.length≤i)∧Hid (OpnR C dir most names i d' g RG)∧Hid (Chg (Off B2) w2 wr)) (fun iv _=>names.length-(RowKit.intOf iv).toNat)
 case atStart=>exact⟨_,0,S,_,[],d,_,rfl,rfl,Nat.zero_le _,HLG2.out,Nat.le_refl _,HO0.out,Chg.refl _ _⟩
 case round=>
  obtain⟨wr,i,S',sv,ss,d',g,rfl,rfl,HI,hlg,HSS,HOP,HCR⟩:=hrel
  have HLG:=Lib.hid hlg
  clear hlg HLG2 HO0;by_cases hi:i<names.length
  ·have hi2:(i:Int)<(names.length:Int):=by omega
   obtain⟨b,hb,hz⟩:=HCELL.out i hi
   have zx:wr.cell? ⟨b,i,none⟩=some (.string ⟨names[i].toArray⟩):=HCR.out.cell hz (fun ho=>ho (HBN.out b (by rw[hb];rfl)))
   subst hb;obtain⟨x,hx⟩:∃ x,names[i]=x:=⟨_,rfl⟩
   have HX:Hid (∀ h:i<names.length,names[i]=x):=fun _=>hx
   rw[hx] at zx;have hxl:x.length≤40:=HSH.out x (by rw[←hx];exact List.getElem_mem hi)
   have HXL:=Lib.hid hxl
   have HTR:=Lib.hid (HT2.out.offB HTB2.out HCR.out)
   have HBA:=Lib.hid (fun (w':World) (hw:Chg Nil wr w')=>progBase_any (HTR.out.chg hw) ⟨dir.toArray⟩ ⟨x.toArray⟩ (by show dir.toArray.size≤500;have:=HDI.out;simp;omega) (by show x.toArray.size≤900;simp;omega))
   obtain⟨pb,hpb⟩:∃ pb,progBase dir x=pb:=⟨_,rfl⟩
   have e1:progBase (ByteArray.mk dir.toArray).data.toList (ByteArray.mk x.toArray).data.toList=pb:=hpb
   rw[e1] at HBA;have HPB:=Lib.hid hpb
   have HGONE:=Lib.hid (fun (w':World) (hw:Chg Nil wr w')=>lgone_any (HLG.out.nil hw) x (by have:=HXL.out;omega))
   have HGN:=Lib.hid (HOP.out.gone hi HND.out)
   obtain⟨RM,hRM⟩:∃ RM,d'.remove x=RM:=⟨_,rfl⟩
   rw[hx] at HGN;rw[hRM] at HGN HGONE
   have HI2:=Lib.hid hi
   clear hz hi hx hxl e1 hpb hRM;have hi3:¬(names.length:Int)≤(i:Int):=by omega
   have hi4:(i:Int)+1≤200:=by omega
   go_wp2_with fail;refine (HBA.out _ (Chg.refl _ _)).mono ?_
   rintro e w3 ⟨rfl,hc3⟩
   have HC3:=Lib.hid hc3
   clear zx hc3 HBA hi2 hi3;by_cases hneg:pb<0
   ·have HOFF:Hid (offAt dir x g.segs g.down=true):=by unfold Hid offAt;rw[HPB.out,decide_eq_true hneg];rfl
    go_wp2_with fail;refine (HGONE.out w3 HC3.out).mono ?_
    rintro e w4 ⟨rfl,hs4,hc4⟩
    have HS4:=Lib.hid hs4
    have HC4:Hid (Chg (Off B2) wr w4):=(HC3.out.weak (fun _ h=>h.elim)).trans hc4 (fun k hk=>.inl hk)
    clear hs4 hc4 hneg;by_cases hk:RM.1=0
    ·have hev:errD RM.1 = .nilIface:=by rw[hk];rfl
     rw[hev];have HNX:=Lib.hid ((HGN.out HOFF.out).1 hk)
     obtain⟨S4,hs4⟩:=HS4.out
     clear hev hk;go_wp2_with fail;go_roundw
     case rel=>exact⟨_,i+1,S4,sv,ss,RM.2,g,rfl,by simp,HI2.out,hs4,by have:=HSS.out;show _≤_;omega,HNX.out,HCR.out.trans HC4.out (fun k hk=>.inl hk)⟩
     case measure=>have:=HI2.out;simp[RowKit.intOf];omega
    ·have hev:=errD_ne hk
     rw[hev];have HRK:=Lib.hid hk
     have HEND:=Lib.hid ((HGN.out HOFF.out).2 hk)
     clear hev hk;go_wp2_with fail;go_ret2;obtain⟨S4,hs4⟩:=HS4.out
     have hE:RL=(RM.1,RM.2,⟨dir,most,[],0,0,false⟩):=by
      have h9:=HRL.out
      rw[HEND.out,if_neg HRK.out] at h9
      exact h9
     rw[hE];refine⟨(HC2B.out.trans (HCR.out.weak (S':=Off B) fun k hk=>.inl fun hb=>hk (HBB.out k hb)) (fun k hk=>.inl hk)).trans (HC4.out.weak (S':=Off B) fun k hk=>.inl fun hb=>hk (HBB.out k hb)) (fun k hk=>.inl hk),.inr ⟨HRK.out,S4,?_,hs4.dsB HBB.out⟩⟩
     exact (congrArg (fun v=>Ending.returned (.tuple #[.pointer none,v])) (errD_ne HRK.out)).symm
   ·have HNEG:=Lib.hid hneg
    have c3:=HLG.out.c.cell (j:=3) rfl
    have c3':=HC3.out.cell c3 (fun h=>h)
    have c6:=HC3.out.cell (HLG.out.c.cell (j:=6) rfl) (fun h=>h)
    obtain⟨a,cap,hv,hcap,hsc⟩:=HLG.out.o.val
    rw[List.length_map] at hv;have HSCELL:Hid (∀ j (hj:j<ss.length),∃ b,a=some ⟨b,0,none⟩∧w3.cell? ⟨b,j,none⟩=some (.pointer (some ⟨ss[j].1,0,none⟩))):=fun j hj=>by
     obtain⟨b,hb,hz⟩:=hsc j (by rw[List.length_map];exact hj)
     rw[List.getElem_map] at hz;exact⟨b,hb,HC3.out.cell hz (fun h=>h)⟩
    obtain⟨m,hm⟩:∃ m,ss.length=m:=⟨_,rfl⟩
    have HSM:=Lib.hid hm
    have hssl:m≤200:=by have:=HSS.out;have:=HI2.out;have:=HLN.out;omega
    have HSSL:=Lib.hid hssl
    rw[hm] at hv;subst hv;clear hcap hsc c3 hm;go_upto_region 13 with fail;go_cut [88] (fun bv wy=>bv = .bool (offAt dir x g.segs g.down)∧Chg Nil w3 wy)
    case first=>
     have HOFE:Hid (offAt dir x g.segs g.down=(g.down||(decide (0<ss.length)&&decide (pb<lastNext g.segs)))):=by
      unfold Hid offAt;rw[HPB.out,decide_eq_false (Int.not_lt.2 HNEG.out),HLG.out.len,Bool.false_or]
     cases hdn:g.down with
     | true=>
      rw[hdn] at c6;have HOF:Hid (offAt dir x g.segs g.down=true):=by have h9:=HOFE.out;rw[hdn,Bool.true_or] at h9;rw[hdn];exact h9
      clear hdn;have HW7:Hid (Chg Nil w3 w3):=Chg.refl _ _
      go_wp2_with fail;go_meet
      case rel=>exact⟨by rw[HOF.out],HW7.out⟩
     | false=>
      rw[hdn] at c6;by_cases hs0:0<ss.length
      ·have hs0i:(0:Int)<(m:Int):=by have:=HSM.out;omega
       have hlx:lastNext g.segs=g.last.next:=rfl
       have HOF:Hid (offAt dir x g.segs g.down=decide (pb<g.last.next)):=by
        have h9:=HOFE.out
        rw[hdn,decide_eq_true hs0,hlx] at h9
        show offAt dir x g.segs g.down=decide (pb<g.last.next)
        rw[hdn];simpa using h9
       obtain⟨b,rfl,hz⟩:=HSCELL.out (ss.length-1) (by omega)
       have HNX:Hid (∀ w',Chg Nil w3 w'→Calls Tryz.prog 52 #[.pointer (some ⟨(ss[ss.length-1]'(by omega)).1,0,none⟩)] w' fun e w''=>e = .returned (.int .i64 g.last.next)∧Chg Nil w' w''):=fun w' hw=>by
        have hlg':=HLG.out.nil (HC3.out.trans hw (fun _ h=>h.elim))
        have hls:=hlg'.t.lastSeg hs0
        have e1:g.segs[ss.length-1]'(by have:=hlg'.len;omega)=g.last:=by rw[hls];congr 1;rw[hlg'.len]
        have h9:=snext_any (hlg'.m (ss.length-1) (by omega)) (by rw[e1,hls];have:=(HOP.out.pls _ (List.getElem_mem (l:=g.segs) (n:=g.segs.length-1) (by have:=hlg'.len;omega))).1;omega)
        rw[e1] at h9;exact h9
       obtain⟨q,hq⟩:∃ q,(ss[ss.length-1]'(by omega)).1=q:=⟨_,rfl⟩
       rw[hq] at hz HNX
       obtain⟨nx,hnx⟩:∃ nx,g.last.next=nx:=⟨_,rfl⟩
       rw[hnx] at HNX HOF
       rw[HSM.out] at hz;have hk0:(1:Int)≤(m:Int):=by omega
       have hk1:(m:Int)-1<(m:Int):=by omega
       clear hdn hq hnx hlx hs0;go_wp2_with fail;refine (HNX.out w3 (Chg.refl _ _)).mono ?_
       rintro e w7 ⟨rfl,hc7⟩
       have HW7:=Lib.hid hc7
       clear hc7;go_wp2_with fail;go_meet
       case rel=>exact⟨by rw[HOF.out],HW7.out⟩
      ·have hs0i:¬(0:Int)<(m:Int):=by have:=HSM.out;omega
       have HOF:Hid (offAt dir x g.segs g.down=false):=by
        have h9:=HOFE.out
        rw[hdn,decide_eq_false hs0] at h9
        rw[hdn];exact h9
       clear hdn hs0;have HW7:Hid (Chg Nil w3 w3):=Chg.refl _ _
       go_wp2_with fail;go_meet
       case rel=>exact⟨by rw[HOF.out],HW7.out⟩
    obtain⟨rfl,hcw⟩:=hcut
    have HC4:Hid (Chg Nil wr wc):=HC3.out.trans hcw (fun _ h=>h.elim)
    clear hcw c3' c6 HC3 HSCELL;cases hof:offAt dir x g.segs g.down with
    | true=>
     have HOFF:=Lib.hid hof
     clear hof hneg;go_wp2_with fail;refine (HGONE.out wc HC4.out).mono ?_
     rintro e w5 ⟨rfl,hs5,hc5⟩
     have HS5:=Lib.hid hs5
     have HC5:Hid (Chg (Off B2) wr w5):=(HC4.out.weak (fun _ h=>h.elim)).trans hc5 (fun k hk=>.inl hk)
     clear hs5 hc5;by_cases hk:RM.1=0
     ·have hev:errD RM.1 = .nilIface:=by rw[hk];rfl
      rw[hev];have HNX:=Lib.hid ((HGN.out HOFF.out).1 hk)
      obtain⟨S4,hs4⟩:=HS5.out
      clear hev hk;go_wp2_with fail;go_roundw
      case rel=>exact⟨_,i+1,S4,_,ss,RM.2,g,rfl,by simp,HI2.out,hs4,by have:=HSS.out;show _≤_;omega,HNX.out,HCR.out.trans HC5.out (fun k hk=>.inl hk)⟩
      case measure=>have:=HI2.out;simp[RowKit.intOf];omega
     ·have hev:=errD_ne hk
      rw[hev];have HRK:=Lib.hid hk
      have HEND:=Lib.hid ((HGN.out HOFF.out).2 hk)
      clear hev hk;go_wp2_with fail;go_ret2;obtain⟨S4,hs4⟩:=HS5.out
      have hE:RL=(RM.1,RM.2,⟨dir,most,[],0,0,false⟩):=by
       have h9:=HRL.out
       rw[HEND.out,if_neg HRK.out] at h9
       exact h9
      rw[hE];refine⟨(HC2B.out.trans (HCR.out.weak (S':=Off B) fun k hk=>.inl fun hb=>hk (HBB.out k hb)) (fun k hk=>.inl hk)).trans (HC5.out.weak (S':=Off B) fun k hk=>.inl fun hb=>hk (HBB.out k hb)) (fun k hk=>.inl hk),.inr ⟨HRK.out,S4,?_,hs4.dsB HBB.out⟩⟩
      exact (congrArg (fun v=>Ending.returned (.tuple #[.pointer none,v])) (errD_ne HRK.out)).symm
    | false=>
     obtain⟨nb,hnb⟩:∃ nb:Nat,pb=nb:=⟨pb.toNat,by omega⟩
     subst hnb;obtain⟨c,hc⟩:∃ c,C nb=c:=⟨_,rfl⟩
     obtain⟨o1,o2,o3,o4⟩:=HOP.out.opened HI2.out HND.out HLG.out.a.ok (by rw[HX.out HI2.out];exact hof) (n:=nb) (by rw[HX.out HI2.out];exact HPB.out) hc
     have HO:=Lib.hid (fun (w':World) (hw:Chg Nil wr w')=>lsopen_any (HLG.out.nil hw) (HTR.out.chg hw).tabs dir HDI.out nb c o1)
     obtain⟨RO,hRO⟩:∃ RO,openR d' (segName dir nb) c.1 c.2=RO:=⟨_,rfl⟩
     rw[hRO] at HO o3 o4
     have HO3:=Lib.hid o3
     have HO4:=Lib.hid o4
     clear hof o1 o2 o3 o4 hRO hc hneg HGN HGONE HNEG;go_wp2_with fail;refine (HO.out wc HC4.out).mono ?_
     rintro e w5 ⟨hcase,hc5⟩
     have HC5:Hid (Chg (Off B2) wr w5):=(HC4.out.weak (fun _ h=>h.elim)).trans hc5 (fun k hk=>.inl hk)
     clear hc5;rcases hcase with ⟨hk,s,v,S5,rfl,hs5,hsg5⟩ | ⟨hk,S5,rfl,hs5⟩
     ·have HS5:=Lib.hid hs5
      have HSG5:=Lib.hid hsg5
      have HNX:=Lib.hid (HO3.out hk)
      have HOW:Hid (OwnT (w5.alloc (.cells #[.pointer (some ⟨s,0,none⟩)] 104)) (.slice a m cap) (ss.map (·.1))):=ownsRow_chg HS5.out.o ((Chg.refl Nil w5).alloc _) (fun _ _ h=>h)
      have HBR:=Lib.hid (Box.new w5 [.pointer (some ⟨s,0,none⟩)] 104)
      have c3:=HS5.out.c.cell (j:=3) rfl
      obtain⟨jl,hjl⟩:∃ jl,c.2.length=jl:=⟨_,rfl⟩
      rw[hjl] at HNX ⊢
      clear hs5 hsg5 hk hjl HO3 HO4;go_upto_region 21 with (at_builtin;go_must (refine wpList_append_grew rfl (.tmp 110) (.tmp 112) 97 97 rfl segT _ Tryz.underlying97 (by intro _;simp) (.slice a m cap) m ((ss.map (·.1)).map fun s=>Value.pointer (some ⟨s,0,none⟩)) rfl (by have h9:=HOW.out;unfold OwnT at h9;rw[List.length_map,HSM.out] at h9;exact h9) _ 1 [.pointer (some ⟨s,0,none⟩)] rfl (Source.box HBR.out rfl (by intro u hu;rw[List.mem_singleton.1 hu];rfl)) (by have:=HSSL.out;unfold maxLen;omega) (by have:=HSSL.out;omega) ?_);intro v2 w7 hown2 hg2 _;have HOW2:=Lib.hid hown2;have HG2:=Lib.hid hg2;obtain⟨x2,n2,c2,rfl⟩:=ownsRow_form hown2;have hbx7:=Lib.hid ((HS5.out.c.chg ((Chg.refl Nil w5).alloc (.cells #[.pointer (some ⟨s,0,none⟩)] 104)) (fun h=>h)).chg hg2.chg (fun h=>(box_row_ne' HS5.out.c HS5.out.o (by decide)) h));have f3:=hbx7.out.free 3;have d3:=hbx7.out.cell (j:=3) rfl;clear hown2 hg2 c3)
      have hset:Chg (fun k=>k=l) w7 (w7.setCell ⟨l,3,none⟩ (.slice x2 n2 c2)):=(Chg.refl (fun k=>k=l) _).setCell (.inl rfl) _
      have ho:OwnT w7 (.slice x2 n2 c2) (ss.map (·.1)++[s]):=by
       unfold OwnT;rw[List.length_append,List.length_map,List.length_singleton,List.map_append,List.map_singleton,HSM.out];exact HOW2.out
      have hC1:Chg (fun k=>(Value.slice a m cap).ownBlock=some k) w5 w7:=(((Chg.refl Nil w5).alloc _).weak (fun _ h=>h.elim)).trans HG2.out.chg (fun k hk=>.inl hk)
      have hlg8:=HS5.out.moreV HSG5.out ho hC1 (fun k hk=>(HG2.out.own k hk).imp id (fun h=>by rw[World.size_alloc] at h;omega)) hset (hbx7.out.set 3 _)
      have HLG8:=Lib.hid hlg8
      have HC8:Hid (Chg (Off B2) wr (w7.setCell ⟨l,3,none⟩ (.slice x2 n2 c2))):=(HC5.out.trans (hC1.weak (S':=Off B2) (fun k hk=>.inl (HS5.out.lb k (.inr hk)).1)) (fun k hk=>.inl hk)).trans (hset.weak (S':=Off B2) (fun k hk=>.inl (fun hb=>(HS5.out.lb l (.inl rfl)).1 (hk ▸ hb)))) (fun k hk=>.inl hk)
      clear f3 d3 hset ho hC1 hlg8 hbx7 HOW HBR;generalize w7.setCell ⟨l,3,none⟩ (.slice x2 n2 c2)=w8 at *
      have c6:=HLG8.out.c.cell (j:=6) rfl
      have f6:=HLG8.out.c.free 6
      go_wp2_with fail;have hset:Chg (fun k=>k=l) w8 (w8.setCell ⟨l,6,none⟩ (.bool (decide (0<jl)))):=(Chg.refl (fun k=>k=l) _).setCell (.inl rfl) _
      have hlg9:LgS B2 (w8.setCell ⟨l,6,none⟩ (.bool (decide (0<jl)))) p l S5 (.slice x2 n2 c2) (ss++[(s,v)]) RO.2 { g with segs:=g.segs++[sgMk (segName dir nb) nb c.1],down:=decide (0<jl) }:=HLG8.out.cells hset (HLG8.out.c.set 6 _) rfl
      have HC9:Hid (Chg (Off B2) wr (w8.setCell ⟨l,6,none⟩ (.bool (decide (0<jl))))):=HC8.out.trans (HLG8.out.offL hset) (fun k hk=>.inl hk)
      have HNX2:Hid (OpnR C dir most names (i+1) RO.2 { g with segs:=g.segs++[sgMk (segName dir nb) nb c.1],down:=decide (0<jl) } RG):=HNX.out
      go_roundw
      case rel=>exact⟨_,i+1,S5,_,ss++[(s,v)],RO.2,_,rfl,by simp,HI2.out,hlg9,by have:=HSS.out;show _≤_;rw[List.length_append,List.length_singleton];omega,HNX2.out,HCR.out.trans HC9.out (fun k hk=>.inl hk)⟩
      case measure=>have:=HI2.out;simp[RowKit.intOf];omega
     ·have hev:=errD_ne hk
      rw[hev];have HRK:=Lib.hid hk
      have HS5:=Lib.hid hs5
      have HEND:=Lib.hid (HO4.out hk)
      clear hev hk hs5;go_wp2_with fail;go_ret2;have hE:RL=(RO.1,RO.2,⟨dir,most,[],0,0,false⟩):=by
       have h9:=HRL.out
       rw[HEND.out,if_neg HRK.out] at h9
       exact h9
      rw[hE];refine⟨(HC2B.out.trans (HCR.out.weak (S':=Off B) fun k hk=>.inl fun hb=>hk (HBB.out k hb)) (fun k hk=>.inl hk)).trans (HC5.out.weak (S':=Off B) fun k hk=>.inl fun hb=>hk (HBB.out k hb)) (fun k hk=>.inl hk),.inr ⟨HRK.out,S5,?_,HS5.out.dsB HBB.out⟩⟩
      exact (congrArg (fun v=>Ending.returned (.tuple #[.pointer none,v])) (errD_ne HRK.out)).symm
  ·have hi2:¬(i:Int)<(names.length:Int):=by omega
   obtain rfl:i=names.length:=by have:=HI.out;omega
   clear hi hi2;have c6:=HLG.out.c.cell (j:=6) rfl
   have f6:=HLG.out.c.free 6
   have HOE:Hid (RG=(0,d',g.segs,g.down)):=by
    have h9:=HOP.out.go
    rw[List.drop_length,openGo] at h9;exact h9.symm
   have HE1:Hid (RL=openMid n d' ⟨dir,most,g.segs,0,0,false⟩):=by
    have h9:=HRL.out
    rw[HOE.out,if_pos rfl] at h9
    exact h9
   have hg0:({ g with down:=false }:Lg)=⟨dir,most,g.segs,0,0,false⟩:=by
    have h9:=HOP.out.hdir
    have h8:=HOP.out.hmost
    have h7:=HOP.out.start
    have h6:=HOP.out.safe
    cases g
    simp only at h9 h8 h7 h6
    rw[h9,h8,h7,h6]
   have HPL:=Lib.hid HOP.out.pls
   have HSS2:Hid (ss.length≤200):=by have:=HSS.out;have:=HLN.out;unfold Hid;omega
   have HTR:=Lib.hid (HT2.out.offB HTB2.out HCR.out)
   have hset:Chg (fun k=>k=l) wr (wr.setCell ⟨l,6,none⟩ (.bool false)):=(Chg.refl (fun k=>k=l) _).setCell (.inl rfl) _
   have hlg4:LgS B2 (wr.setCell ⟨l,6,none⟩ (.bool false)) p l S' sv ss d' { g with down:=false }:=HLG.out.cells hset (HLG.out.c.set 6 _) rfl
   rw[hg0] at hlg4;have HLG4:=Lib.hid hlg4
   have HC4:Hid (Chg (Off B2) w2 (wr.setCell ⟨l,6,none⟩ (.bool false))):=HCR.out.trans (HLG.out.offL hset) (fun k hk=>.inl hk)
   have HTR4:Hid (TabE (wr.setCell ⟨l,6,none⟩ (.bool false))):=HTR.out.offB HTB2.out (HLG.out.offL hset)
   clear hset hlg4 hg0 HOE HRL HSS HI;go_upto_region 24 with fail;clear c6 f6 HLG HCR HTR HOP;generalize wr.setCell ⟨l,6,none⟩ (.bool false)=w4 at *
   obtain⟨sgl,hsgl⟩:∃ sgl,g.segs=sgl:=⟨_,rfl⟩
   rw[hsgl] at HE1 HPL HLG4
   obtain⟨a,cap,hv,_,_⟩:=HLG4.out.o.val
   rw[List.length_map] at hv;obtain⟨m,hm⟩:∃ m,ss.length=m:=⟨_,rfl⟩
   have HM:=Lib.hid hm
   rw[hm] at hv HSS2
   subst hv;have hm2:m≤200:=HSS2.out
   have c3:=HLG4.out.c.cell (j:=3) rfl
   clear hsgl hm;go_upto_if 130 with fail
   go_cut [130] (fun bv wy=>∃ (S1:Nat→Prop) (sv1:Value) (ss1:List (Nat×Value)) (d1:Dk) (g1:Lg),LgS B2 wy p l S1 sv1 ss1 d1 g1∧0<ss1.length∧Hid (ss1.length≤201)∧Hid (∀ s∈g1.segs,s.pls.length≤100000∧s.name.length≤1000)∧Hid (RL=openEnd n d1 g1)∧Chg (Off B2) w4 wy)
   case first=>
    by_cases hm0:m=0
    ·have hz:((m:Int)==0)=true:=by rw[hm0];rfl
     have hsn:ss=[]:=List.eq_nil_of_length_eq_zero (by rw[HM.out];exact hm0)
     have hgn:sgl=[]:=List.eq_nil_of_length_eq_zero (by have h9:=HLG4.out.len;rw[hsn] at h9;exact h9.symm)
     subst hsn hgn;have HMK:=Lib.hid (lmake_any HLG4.out HTR4.out.tabs HTB2.out.tabs HDI.out n HN.out)
     have hnm:(segName dir n).length≤1000:=segName_len ⟨dir.toArray⟩ n (by show dir.toArray.size≤100;have:=HDI.out;simp;omega) HN.out
     have HNM:=Lib.hid hnm
     have HE2:Hid (RL=if (d'.make (segName dir n)).1=0 then openEnd n (d'.make (segName dir n)).2 ⟨dir,most,[⟨segName dir n,n,[],0⟩],0,0,false⟩ else ((d'.make (segName dir n)).1,(d'.make (segName dir n)).2,⟨dir,most,[],0,0,false⟩)):=by
      have h9:=HE1.out
      unfold openMid at h9;rw[if_pos rfl] at h9
      simp only[Int.toNat_natCast] at h9
      exact h9
     obtain⟨MK,hMK⟩:∃ MK,d'.make (segName dir n)=MK:=⟨_,rfl⟩
     simp only[hMK] at HMK
     rw[hMK] at HE2;rw[hz];clear hz hm0 hnm hMK c3 hm2;go_wp2_with fail;refine HMK.out.mono ?_
     rintro e w5 ⟨hcase,hc5⟩
     have HC5:Hid (Chg (Off B2) w4 w5):=hc5.weak fun k hk=>.inl (HLG4.out.sl k hk).1
     clear hc5;rcases hcase with ⟨hk,s,S5,rfl,hs5,hsg5⟩ | ⟨hk,S5,rfl,hs5⟩
     ·have HS5:=Lib.hid hs5
      have HSG5:=Lib.hid hsg5
      have HE3:Hid (RL=openEnd n MK.2 ⟨dir,most,[⟨segName dir n,n,[],0⟩],0,0,false⟩):=by
       have h9:=HE2.out
       rw[if_pos hk] at h9
       exact h9
      have hal:Chg Nil w5 (w5.alloc (.cells #[.pointer (some ⟨s,0,none⟩)] 104)):=(Chg.refl Nil w5).alloc _
      have hb6:=HS5.out.c.chg hal (fun h=>h)
      have hrow:=Box.new w5 [.pointer (some ⟨s,0,none⟩)] 104
      have c3:=hb6.cell (j:=3) rfl
      have f3:=hb6.free 3
      have HB6:=Lib.hid hb6
      have HROW:=Lib.hid hrow
      have HAL:=Lib.hid hal
      clear hk hs5 hsg5 hal hb6 hrow HE2 HE1;go_wp2_with fail;have hset:Chg (fun k=>k=l) (w5.alloc (.cells #[.pointer (some ⟨s,0,none⟩)] 104)) ((w5.alloc (.cells #[.pointer (some ⟨s,0,none⟩)] 104)).setCell ⟨l,3,none⟩ (.slice (some ⟨w5.heap.size,0,none⟩) 1 1)):=(Chg.refl (fun k=>k=l) _).setCell (.inl rfl) _
      have ho:OwnT (w5.alloc (.cells #[.pointer (some ⟨s,0,none⟩)] 104)) (.slice (some ⟨w5.heap.size,0,none⟩) 1 1) (([]:List (Nat×Value)).map (·.1)++[s]):=OwnT.one HROW.out
      have hfin:=HS5.out.moreV HSG5.out ho (HAL.out.weak (fun _ h=>h.elim)) (fun k hk=>.inr (by obtain rfl:=Option.some.inj hk;exact Nat.le_refl _)) hset (HB6.out.set 3 _)
      have hcf:=(HC5.out.trans (HAL.out.weak (S':=Off B2) (fun _ h=>h.elim)) (fun k hk=>.inl hk)).trans (hset.weak (S':=Off B2) (fun k hk=>.inl (fun hb=>(HS5.out.lb l (.inl rfl)).1 (hk ▸ hb)))) (fun k hk=>.inl hk)
      go_meet
      case rel=>exact⟨S5,_,_,MK.2,_,hfin,by simp,by unfold Hid;simp,fun s hs=>by (have hs:=List.mem_singleton.1 hs;rw[hs];exact⟨Nat.zero_le _,HNM.out⟩),HE3.out,hcf⟩
     ·have hev:=errD_ne hk
      rw[hev];have HRK:=Lib.hid hk
      have HS5:=Lib.hid hs5
      have HE3:Hid (RL=(MK.1,MK.2,⟨dir,most,[],0,0,false⟩)):=by
       have h9:=HE2.out
       rw[if_neg hk] at h9
       exact h9
      clear hev hk hs5;go_wp2_with fail;go_ret2;rw[HE3.out];refine⟨(HC2B.out.trans (HC4.out.weak (S':=Off B) fun k hk=>.inl fun hb=>hk (HBB.out k hb)) (fun k hk=>.inl hk)).trans (HC5.out.weak (S':=Off B) fun k hk=>.inl fun hb=>hk (HBB.out k hb)) (fun k hk=>.inl hk),.inr ⟨HRK.out,S5,?_,HS5.out.dsB HBB.out⟩⟩
      exact (congrArg (fun v=>Ending.returned (.tuple #[.pointer none,v])) (errD_ne HRK.out)).symm
    ·have hz:((m:Int)==0)=false:=beq_eq_false_iff_ne.2 (by omega)
     have HE3:Hid (RL=openEnd n d' ⟨dir,most,sgl,0,0,false⟩):=by
      have h9:=HE1.out
      unfold openMid at h9;rw[if_neg (fun h8=>hm0 (by have h7:=HLG4.out.len;have h8:sgl=[]:=h8;rw[HM.out] at h7;rw[h7,h8];rfl))] at h9
      exact h9
     have HM0:Hid (0<ss.length):=by rw[HM.out];unfold Hid;omega
     rw[hz];clear hz hm0 c3 hm2 HE1;go_wp2_with fail;go_meet
     case rel=>exact⟨S',_,ss,d',_,HLG4.out,HM0.out,by rw[HM.out];exact Nat.le_succ_of_le HSS2.out,HPL.out,HE3.out,Chg.refl _ _⟩
   obtain⟨S1,sv1,ss1,d1,g1,hlg1,hne1,HF1,HP1,HE4,hcc⟩:=hcut
   have HLG1:=Lib.hid hlg1
   have HNE1:=Lib.hid hne1
   have HC5:Hid (Chg (Off B2) w2 wc):=HC4.out.trans hcc (fun k hk=>.inl hk)
   have HGL:Hid (g1.last.pls.length≤100000∧g1.last.name.length≤1000):=by
    have hls:=hlg1.t.lastSeg hne1
    rw[hls];exact HP1.out _ (List.getElem_mem _)
   have HLA:=Lib.hid (llast_any hlg1.t hne1 (by have:=HF1.out;omega))
   have HSY:=Lib.hid (fun (w':World) (hw:Chg Nil wc w')=>llsync_any (hlg1.nil hw) hne1 HGL.out.2)
   obtain⟨q,hq⟩:∃ q,(ss1[ss1.length-1]'(by omega)).1=q:=⟨_,rfl⟩
   rw[hq] at HLA HSY
   obtain⟨RS,hRS⟩:∃ RS,d1.sync g1.last.name=RS:=⟨_,rfl⟩
   rw[hRS] at HSY;have HE5:Hid (RL=if RS.1=0 then (0,RS.2,{ g1 with safe:=g1.stop,start:=min (max (n:Int) ((g1.segs[0]?).getD sg0).base) g1.stop }) else (RS.1,RS.2,g1)):=by
    have h9:=HE4.out
    unfold openEnd at h9;rw[hRS] at h9;exact h9
   clear hlg1 hne1 hcc hq hRS c3 hm2 HE4 HC4 HLG4 HPL HE1 HTR4;go_wp2_with fail;refine HLA.out.mono ?_
   rintro e w5 ⟨rfl,hc5⟩
   have HC5':=Lib.hid hc5
   clear hc5;go_wp2_with fail;refine (HSY.out w5 HC5'.out).mono ?_
   rintro e w6 ⟨rfl,hs6,hc6⟩
   have HS6:=Lib.hid hs6
   have HC6:Hid (Chg (Off B2) w2 w6):=(HC5.out.trans (HC5'.out.weak (S':=Off B2) (fun _ h=>h.elim)) (fun k hk=>.inl hk)).trans hc6 (fun k hk=>.inl hk)
   clear hs6 hc6 HLA HSY;by_cases hk:RS.1=0
   ·have hev:errD RS.1 = .nilIface:=by rw[hk];rfl
    rw[hev];have HE6:Hid (RL=(0,RS.2,{ g1 with safe:=g1.stop,start:=min (max (n:Int) ((g1.segs[0]?).getD sg0).base) g1.stop })):=by
     have h9:=HE5.out
     rw[if_pos hk] at h9
     exact h9
    obtain⟨S6,hs6⟩:=HS6.out
    have HLG6:=Lib.hid hs6
    have HEN:=Lib.hid (fun (w':World) (g':Lg) (hg:g'.segs=g1.segs) (h:LgS B2 w' p l S6 sv1 ss1 RS.2 g')=>(show Calls Tryz.prog 15 #[.pointer (some ⟨l,0,none⟩)] w' fun e w''=>e = .returned (.int .i64 g1.stop)∧Chg Nil w' w'' from by
     have h1:=lend_any h.t HNE1.out (by have:=HF1.out;omega) (by rw[(stop_keeps hg).1];have:=HGL.out.1;omega)
     rw[(stop_keeps hg).2] at h1
     exact h1))
    clear hev hk HS6 HE5 hs6;obtain⟨st,hst⟩:∃ st,g1.stop=st:=⟨_,rfl⟩
    rw[hst] at HE6;simp only[hst] at HEN
    clear hst;go_wp2_with fail;refine (HEN.out w6 g1 rfl HLG6.out).mono ?_
    rintro e w9 ⟨rfl,hc9⟩
    have HLG9:=Lib.hid (HLG6.out.nil hc9)
    have HC9:Hid (Chg (Off B2) w2 w9):=HC6.out.trans hc9 (fun _ h=>h.elim)
    clear hc9;have c5:=HLG9.out.c.cell (j:=5) rfl
    have f5:=HLG9.out.c.free 5
    go_upto_region 33 with fail;have hset:Chg (fun k=>k=l) w9 (w9.setCell ⟨l,5,none⟩ (.int .i64 st)):=(Chg.refl (fun k=>k=l) _).setCell (.inl rfl) _
    have hlg10:LgS B2 (w9.setCell ⟨l,5,none⟩ (.int .i64 st)) p l S6 sv1 ss1 RS.2 { g1 with safe:=st }:=HLG9.out.cells hset (HLG9.out.c.set 5 _) rfl
    have HLG10:=Lib.hid hlg10
    have HC10:Hid (Chg (Off B2) w2 (w9.setCell ⟨l,5,none⟩ (.int .i64 st))):=HC9.out.trans (HLG9.out.offL hset) (fun k hk=>.inl hk)
    clear hset hlg10 c5 f5;generalize w9.setCell ⟨l,5,none⟩ (.int .i64 st)=w10 at *
    have c3:=HLG10.out.c.cell (j:=3) rfl
    obtain⟨a1,cap1,hv,_,hcell⟩:=HLG10.out.o.val
    obtain⟨b,hb,z0⟩:=hcell 0 (by rw[List.length_map];exact HNE1.out)
    rw[List.getElem_map] at z0;rw[List.length_map] at hv;subst hb;have HBA:Hid (Calls Tryz.prog 57 #[.pointer (some ⟨(ss1[0]'HNE1.out).1,0,none⟩)] w10 fun e w'=>e = .returned (.int .i64 ((g1.segs[0]?).getD sg0).base)∧w'=w10):=by
     have h1:=HLG10.out.m 0 HNE1.out
     have h2:=sbase_any h1
     have e1:(g1.segs[0]?).getD sg0=g1.segs[0]'(by have h9:=HLG10.out.len;have h9:ss1.length=g1.segs.length:=h9;have:=HNE1.out;omega):=by
      rw[List.getElem?_eq_getElem (by have h9:=HLG10.out.len;have h9:ss1.length=g1.segs.length:=h9;have:=HNE1.out;omega)]
      rfl
     rw[e1];exact h2
    obtain⟨q0,hq0⟩:∃ q0,(ss1[0]'HNE1.out).1=q0:=⟨_,rfl⟩
    rw[hq0] at z0 HBA
    obtain⟨b0,hb0⟩:∃ b0,((g1.segs[0]?).getD sg0).base=b0:=⟨_,rfl⟩
    rw[hb0] at HBA HE6
    obtain⟨m1,hm1⟩:∃ m1,ss1.length=m1:=⟨_,rfl⟩
    have hm1p:(0:Int)<(m1:Int):=by have:=HNE1.out;omega
    rw[hm1] at hv;rw[hv] at c3;have HSV:=Lib.hid hv
    clear hcell hq0 hb0 hm1 hv;go_wp2_with fail;refine HBA.out.mono ?_
    rintro e w11 ⟨rfl,hw⟩
    obtain rfl:=hw.symm
    clear c3 z0 hm1p;go_wp2_with fail;refine (HEN.out _ { g1 with safe:=st } rfl HLG10.out).mono ?_
    rintro e w12 ⟨rfl,hc12⟩
    have HLG12:=Lib.hid (HLG10.out.nil hc12)
    have HC12:Hid (Chg (Off B2) w2 w12):=HC10.out.trans hc12 (fun _ h=>h.elim)
    clear hc12;have c4:=HLG12.out.c.cell (j:=4) rfl
    have f4:=HLG12.out.c.free 4
    go_wp2_with fail;go_ret2;have hset:Chg (fun k=>k=l) w12 (w12.setCell ⟨l,4,none⟩ (.int .i64 (min (max (n:Int) b0) st))):=(Chg.refl (fun k=>k=l) _).setCell (.inl rfl) _
    have hlg13:LgS B2 (w12.setCell ⟨l,4,none⟩ (.int .i64 (min (max (n:Int) b0) st))) p l S6 sv1 ss1 RS.2 { g1 with safe:=st,start:=min (max (n:Int) b0) st }:=HLG12.out.cells hset (HLG12.out.c.set 4 _) rfl
    have hcz:=HC12.out.trans (HLG12.out.offL hset) (fun k hk=>.inl hk)
    rw[HE6.out];exact⟨HC2B.out.trans (hcz.weak (S':=Off B) fun k hk=>.inl fun hb=>hk (HBB.out k hb)) (fun k hk=>.inl hk),.inl ⟨rfl,l,S6,sv1,ss1,rfl,by have:=HL.out;omega,hlg13.less HBB.out⟩⟩
   ·have hev:=errD_ne hk
    rw[hev];have HRK:=Lib.hid hk
    have HE6:Hid (RL=(RS.1,RS.2,g1)):=by
     have h9:=HE5.out
     rw[if_neg hk] at h9
     exact h9
    clear hev hk;go_wp2_with fail;go_ret2;obtain⟨S6,hs6⟩:=HS6.out
    rw[HE6.out];refine⟨HC2B.out.trans (HC6.out.weak (S':=Off B) fun k hk=>.inl fun hb=>hk (HBB.out k hb)) (fun k hk=>.inl hk),.inr ⟨HRK.out,S6,?_,hs6.dsB HBB.out⟩⟩
    exact (congrArg (fun v=>Ending.returned (.tuple #[.pointer none,v])) (errD_ne HRK.out)).symm
end Go.Proofs.YtdjmifaidgbbaaaGreatDoor
