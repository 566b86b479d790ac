/-
  A segment is opened. (Of the segments' seat.)
-/
import Derived.Test.YtobegmcbfgnpnaaGreatDoorU31
set_option linter.unusedVariables false
set_option linter.unusedSimpArgs false
set_option maxHeartbeats 0
set_option maxRecDepth 200000
namespace Go.Proofs.YtobegmcbfgnpnaaGreatDoor
open Go.RowKit Go.Maps
theorem DecIs.zr {n m:Nat}{l:List UInt8}{v:Value}{w w':World}(h:DecIs n l v w)(hz:ZR m batch0 w w'):DecIs n l v w':=by
 obtain⟨u,rfl,ho,hn⟩:=h
 exact⟨u,rfl,hz.ownsRow ho batch0_rec,hn⟩
theorem DecIs.less {n n':Nat}{l:List UInt8}{v:Value}{w:World}(h:DecIs n l v w)(hn:n'≤n):DecIs n' l v w:=by
 obtain⟨u,rfl,ho,h2⟩:=h
 exact⟨u,rfl,ho,fun k hk=>Nat.le_trans hn (h2 k hk)⟩
theorem OwnR.form {e:TypeId}{w:World}{v:Value}{l:List Rec}(h:OwnR e w v l):v = .slice (vA v) l.length (vC v):=by
 obtain⟨a,c,rfl,_⟩:=h.recs
 rfl
def DecBt (n:Nat) (l:List UInt8) (v:Value) (w:World):Prop:=
 ∃ u,v = .agg #[.int .i64 (decOut l).base,.int .i64 (decOut l).en,u]∧OwnR 61 w u (decOut l).rs∧∀ k,u.ownBlock=some k→n≤k
theorem DecBt.zr {n m:Nat}{l:List UInt8}{v:Value}{w w':World}(h:DecBt n l v w)(hz:ZR m batch0 w w'):DecBt n l v w':=by
 obtain⟨u,rfl,ho,hn⟩:=h
 exact⟨u,rfl,hz.ownsRow ho batch0_rec,hn⟩
def BatF (n:Nat) (l:List UInt8):List Value→World→Prop
 | [],_=>True
 | [v],w=>∃ b,v = .pointer (some ⟨b,0,none⟩)∧n≤b∧Box w b [.int .i64 0,.int .i64 0,.slice none 0 0] 142
 | v::_::_,w=>∃ b u,v = .pointer (some ⟨b,0,none⟩)∧n≤b∧Box w b [.int .i64 (decOut l).base,.int .i64 (decOut l).en,u] 142∧OwnR 61 w u (decOut l).rs∧∀ k,u.ownBlock=some k→n≤k
theorem BatF.nil {n:Nat}{l:List UInt8}{w w':World}(hc:Chg Nil w w'):∀ vs,BatF n l vs w→BatF n l vs w'
 | [],_=>trivial
 | [v],⟨b,h1,h2,h3⟩=>⟨b,h1,h2,h3.chg hc (fun h=>h)⟩
 | v::_::_,⟨b,u,h1,h2,h3,h4,h5⟩=>⟨b,u,h1,h2,h3.chg hc (fun h=>h),ownsRow_chg h4 hc (fun _ _ h=>h),h5⟩
def sizeAt (w:World) (s:Nat):Nat:=match w.cell? ⟨s,4,none⟩ with | some (.int _ n)=>n.toNat | _=>0
theorem Sm.sizeAt {w:World}{s p:Nat}{v:Value}{g:Sg}(h:Sm w s p v g):sizeAt w s=g.size:=by
 have h4:=h.c.cell (j:=4) rfl
 unfold Go.Proofs.YtobegmcbfgnpnaaGreatDoor.sizeAt;rw[h4];rfl
theorem batBs_len {l:List Bt}(h:∀ b∈l,b.Ok):11*l.length≤(batBs l).length:=by
 induction l with
 | nil=>simp
 | cons b l ih=>
  rw[batBs_cons,List.length_append,List.length_cons];have h1:=ih (fun c hc=>h c (List.mem_cons_of_mem _ hc))
  have h2:=(h b (List.mem_cons_self ..)).nums.some
  omega
theorem used_le {d:Dk}{x:Nm}{f:Fl}(h:d.find x=some f):f.bytes.length≤d.used:=by
 unfold Dk.find at h;unfold Dk.used;have:∀ (l:List (Nm×Fl)),l.lookup x=some f→f.bytes.length≤(l.map fun p=>p.2.bytes.length).sum:=by
  intro l;induction l with
  | nil=>intro h;cases h
  | cons a l ih=>
   intro h;rw[List.lookup_cons] at h;rw[List.map_cons,List.sum_cons];split at h
   ·rw[Option.some.inj h];omega
   ·have:=ih h;omega
 exact this _ h
theorem take_all {l:List Bt}(hok:∀ b∈l,b.Ok) {k:Nat}(hk:k≤l.length)(h:(batBs l).length≤(batBs (l.take k)).length):k=l.length:=by
 rcases Nat.lt_or_eq_of_le hk with hlt | rfl
 ·exfalso
  have h1:batBs l=batBs (l.take k)++batBs (l.drop k):=by rw[←batBs_append,List.take_append_drop]
  have h2:=batBs_len (l:=l.drop k) (fun b hb=>hok b (List.mem_of_mem_drop hb))
  rw[h1,List.length_append] at h;rw[List.length_drop] at h2;omega
 ·rfl
theorem piece_whole {l:List Bt} (junk:List UInt8) {k:Nat}(hk:k<l.length)(hok:∀ b∈l,b.Ok):∃ more,((batBs l++junk).drop (batBs (l.take k)).length).take 6000=l[k].bytes++more:=by
 have hn:=(hok l[k] (List.getElem_mem hk)).nums.len
 rw[read_at l junk hk,List.take_append,List.take_of_length_le hn]
 exact⟨_,rfl⟩
theorem piece_junk (l:List Bt) (junk:List UInt8):((batBs l++junk).drop (batBs (l.take l.length)).length).take 6000=junk.take 6000:=by
 rw[List.take_length,List.drop_left' rfl]
theorem SgOf.snoc {g:Sg}{l:List Bt}{k:Nat}(hk:k<l.length)(h:SgOf g (l.take k))(hok:l[k].Ok)(hn:g.next≤l[k].base):SgOf (g.noted l[k].base l[k].en l[k].rs l[k].bytes.length) (l.take (k+1)):=by
 rw[List.take_succ_eq_append_getElem hk]
 exact h.noted hok hn
def openR (d:Dk) (nm:Nm) (l:List Bt) (junk:List UInt8):Nat×Dk:=if junk=[] then (0,d) else d.cut nm (batBs l).length
def OpenAt (B:Nat→Prop) (w w':World) (p:Nat) (S:Nat→Prop) (nm:Nm) (base:Nat) (l:List Bt) (junk:List UInt8) (R:Nat×Dk) (e:Ending):Prop:=
 Chg S w w'∧∃ S',DsS B w' p S' R.2∧
 ((R.1=0∧∃ s v g,(∀ k,SHas s v k→w.heap.size≤k)∧e = .returned (.tuple #[.pointer (some ⟨s,0,none⟩),.int .i64 (junk.length:Nat),.nilIface])∧SgS B w' p s S' v R.2 g∧g.name=nm∧g.base=base∧SgOf g l)∨
  (R.1≠0∧e = .returned (.tuple #[.pointer none,.int .i64 0,errD R.1])))
theorem sopen_any {B:Nat→Prop} {w:World} {p:Nat} {S:Nat→Prop} {d:Dk} (h:DsS B w p S d) (hT:Tabs w) (dir:ByteArray) (hd:dir.size≤100) (base:Nat) (hb:base≤1099511627776)
  (l:List Bt) (junk:List UInt8) (sf:Nat) (hf:d.find (segName dir.data.toList base)=some ⟨batBs l++junk,sf⟩) (hok:∀ b∈l,b.Ok) (hup:rising base l) (hj:junk≠[]→decErr (junk.take 6000)≠0) :
  Calls Tryz.prog 120 #[.pointer (some ⟨p,0,none⟩),.string dir,.int .i64 (base:Nat)] w fun e w'=>OpenAt B w w' p S (segName dir.data.toList base) base l junk (openR d (segName dir.data.toList base) l junk) e:=by
 have HNM:=Lib.hid (name_any hT dir base (by omega) hb)
 obtain⟨nm,hnm⟩:∃ nm,segName dir.data.toList base=nm:=⟨_,rfl⟩
 have hln:nm.length≤1000:=by rw[←hnm];exact segName_len dir base hd hb
 rw[hnm] at HNM hf
 rw[hnm];have HLN:Hid ((ByteArray.mk nm.toArray).size≤4611686018427387904):=by show nm.toArray.size≤4611686018427387904;simp;omega
 have hF:(batBs l++junk).length≤1048576:=by
  have h1:=used_le hf
  have h2:=h.a.ok.fits
  have h3:=h.a.ok.room
  have h1:(batBs l++junk).length≤d.used:=h1
  omega
 have HFL:=Lib.hid hF
 have HSZ:Hid (d.size (ByteArray.mk nm.toArray).data.toList=((batBs l++junk).length:Nat)):=by show d.size nm=_;unfold Dk.size;rw[hf]
 have HRD:Hid (∀ n:Nat,d.read (ByteArray.mk nm.toArray).data.toList (n:Nat) 6000=((batBs l++junk).drop n).take 6000):=by
  intro n;show d.read nm _ _=_
  unfold Dk.read readOf;rw[hf];show (if ((n:Nat):Int)<0∨(6000:Int)≤0 then [] else _)=_
  rw[if_neg (by omega)]
  rfl
 have HOKL:=Lib.hid hok
 have HUP:=Lib.hid hup
 have HJ:=Lib.hid hj
 have HS:=Lib.hid h
 have HLL:Hid (l.length≤99999):=by
  have h1:=batBs_len hok
  rw[List.length_append] at hF;unfold Hid;omega
 clear h hT hd hb hnm hln hf hF hok hup hj;obtain⟨n0,hn0⟩:∃ n0,n0=w.heap.size:=⟨_,rfl⟩
 have HN0:=Lib.hid hn0
 clear hn0;go_enter Tryz.func120,Tryz.ntmps120
 go_wp2_with fail;refine HNM.out.mono ?_
 rintro e w1 ⟨rfl,hc1⟩
 have hal:=(Chg.refl Nil w1).alloc (.cells #[.pointer (some ⟨p,0,none⟩),.string ⟨nm.toArray⟩,.int .i64 (base:Nat),.slice none 0 0,.int .i64 0] 223)
 have HC2:=Lib.hid (hc1.trans hal (fun _ h=>h.elim))
 have hbx:Box (w1.alloc (.cells #[.pointer (some ⟨p,0,none⟩),.string ⟨nm.toArray⟩,.int .i64 (base:Nat),.slice none 0 0,.int .i64 0] 223)) w1.heap.size [.pointer (some ⟨p,0,none⟩),.string ⟨nm.toArray⟩,.int .i64 (base:Nat),.slice none 0 0,.int .i64 0] 223:=Box.new _ _ _
 have HSG:Hid (SgS B (w1.alloc (.cells #[.pointer (some ⟨p,0,none⟩),.string ⟨nm.toArray⟩,.int .i64 (base:Nat),.slice none 0 0,.int .i64 0] 223)) p w1.heap.size S (.slice none 0 0) d ⟨nm,base,[],0⟩):=by
  refine (HS.out.nil hc1).seg hal ⟨hbx,OwnP.nil _⟩ ?_
  rintro k (rfl | hk)
  ·exact Nat.le_refl _
  ·simp[Value.ownBlock] at hk
 have HS0:Hid (n0≤w1.heap.size):=by rw[HN0.out];exact hc1.size
 clear hal hc1 hbx;go_upto_region 2 with fail;generalize w1.alloc (.cells #[.pointer (some ⟨p,0,none⟩),.string ⟨nm.toArray⟩,.int .i64 (base:Nat),.slice none 0 0,.int .i64 0] 223)=w2 at *
 generalize w1.heap.size=s at *;have c1:=HSG.out.m.c.cell (j:=1) rfl
 go_wp2_with fail;refine (size_any HSG.out.a ⟨nm.toArray⟩ HLN.out).mono ?_
 rintro e w3 ⟨rfl,h3⟩
 obtain rfl:=h3.symm
 rw[HSZ.out];obtain⟨al,hal⟩:∃ al,(batBs l++junk).length=al:=⟨_,rfl⟩
 rw[hal];have HAL:=Lib.hid hal
 have h0:¬((al:Nat):Int)<0:=by omega
 clear c1 hal;go_upto_block 0 with fail
 clear h0;go_cut [12] (fun nv wy=>∃ (v:Value) (g:Sg),SgS B wy p s S v d g∧g.name=nm∧g.base=base∧SgOf g l∧(∀ k,SHas s v k→n0≤k)∧Chg Nil w wy)
 case first=>
  go_wp2_with fail;go_loopw [12] (fun nv wr=>∃ (wq:World) (k:Nat) (v:Value) (g:Sg),wq=wr∧k≤l.length∧SgS B wr p s S v d g∧g.name=nm∧g.base=base∧SgOf g (l.take k)∧(∀ k,SHas s v k→n0≤k)∧Chg Nil w wr) (fun _ wr=>al-sizeAt wr s)
  case atStart=>
   refine⟨_,0,_,_,rfl,by omega,HSG.out,rfl,rfl,⟨rfl,rfl,fun b hb=>(by simp at hb),trivial⟩,?_,HC2.out⟩
   rintro k (rfl | hk)
   ·exact HS0.out
   ·simp[Value.ownBlock] at hk
  case round=>
   obtain⟨wr,k,v,g,rfl,hk,hsg,hgn,hgb,hof,hhas,hc⟩:=hrel
   have HSR:=Lib.hid hsg
   have HGN:=Lib.hid hgn
   have HGB:=Lib.hid hgb
   have HOF:=Lib.hid hof
   have HHA:=Lib.hid hhas
   have HC:=Lib.hid hc
   have HK:=Lib.hid hk
   have c1:=hsg.m.c.cell (j:=1) rfl
   have c4:=hsg.m.c.cell (j:=4) rfl
   rw[hgn] at c1;have HGS:Hid (g.size=(batBs (l.take k)).length):=hof.size
   clear hsg hgn hgb hof hhas hc hk HSG HC2 HS0;by_cases hlt:g.size<al
   ·have hlt':(g.size:Int)<(al:Int):=by omega
    obtain⟨L,hL⟩:∃ L,((batBs l++junk).drop g.size).take 6000=L:=⟨_,rfl⟩
    have hLL:L.length≤6000:=by rw[←hL,List.length_take];omega
    have HRL:=Lib.hid ((HRD.out g.size).trans hL)
    have HLI:=Lib.hid hL
    have HLL2:=Lib.hid hLL
    clear hL hLL;have HBAD:Hid (decErr L≠0→SgOf g l):=by
     intro hE;have hkl:k=l.length:=by
      rcases Nat.lt_or_eq_of_le HK.out with h1 | h1
      ·exfalso
       have h2:=HLI.out
       obtain⟨more,h3⟩:=piece_whole junk h1 HOKL.out
       rw[HGS.out,h3] at h2;rw[←h2] at hE;exact hE (decOut_whole (HOKL.out _ (List.getElem_mem h1)) more).1
      ·exact h1
     have h1:=HOF.out
     rw[hkl,List.take_length] at h1;exact h1
    have HGOOD:Hid (decErr L=0→k<l.length∧(Bt.mk (decOut L).base (decOut L).en (decOut L).rs).Nums∧¬(decOut L).base<g.next∧(Bt.mk (decOut L).base (decOut L).en (decOut L).rs).bytes.length=(decOut L).n∧SgOf (g.noted (decOut L).base (decOut L).en (decOut L).rs (decOut L).n) (l.take (k+1))):=by
     intro hE;have hkl:k<l.length:=by
      rcases Nat.lt_or_eq_of_le HK.out with h1 | h1
      ·exact h1
      ·exfalso
       have h2:=HLI.out
       rw[HGS.out,h1,piece_junk] at h2;have h3:junk≠[]:=by
        intro h4;have h5:=HAL.out
        rw[h4,List.append_nil] at h5;have h6:=HGS.out
        rw[h1,List.take_length] at h6;omega
       exact HJ.out h3 (by rw[h2];exact hE)
     have hbok:=HOKL.out l[k] (List.getElem_mem hkl)
     have hnx:g.next≤l[k].base:=by
      have h1:=HOF.out.next
      have h2:=rising_next hkl HUP.out
      rw[HGB.out] at h1;omega
     have hD:decOut L=⟨l[k].base,l[k].en,l[k].bytes.length,l[k].rs⟩:=by
      have h1:=HLI.out
      rw[HGS.out] at h1;obtain⟨more,h2⟩:=piece_whole junk hkl HOKL.out
      rw[h2] at h1;rw[←h1];exact (decOut_whole hbok more).2
     rw[hD];exact⟨hkl,hbok.nums,by show ¬l[k].base<g.next;omega,rfl,HOF.out.snoc hkl hbok hnx⟩
    go_upto_region 6 with fail;clear hlt';refine Ch.wp_region_last _ _ rfl (ZR wr.heap.size batch0) [15,16] (BatF wr.heap.size L) (by kernel_rfl) (fun _=>ZR.refl _) (fun _ _ _ h k=>h.trans k) [[],[],[1],[2],[3],[],[5],[6],[7],[0,4,8],[9],[10],[11],[11],[11],[],[12,15],[13]] rfl (by kernel_rfl) (by kernel_rfl) (by kernel_rfl) (ZR.of (Chg.refl Nil _).drew) ?_ ?_
    ·trivial
    simp only[List.dropLast_cons_cons,List.dropLast_singleton]
    iterate 4 ((with_reducible apply Ch.Walk.eq);(case hd=>rfl);(case hi=>rfl);case h=>(intro w2 hw2 N hN;simp only[Ch.depB];go_simp;(try go_bits);with_reducible exact hN _ (ZR.refl _) (fun _ h=>h)))
    ((with_reducible apply Ch.Walk.eq);(case hd=>rfl);(case hi=>rfl);case h=>(intro w2 hw2 N hN;(have hq:=(hw2.nil (Nat.le_refl _)).cell c1 (fun h=>h));simp only[Ch.depB];go_simp;(try go_bits);with_reducible exact hN _ (ZR.refl _) (fun _ h=>h)))
    iterate 3 ((with_reducible apply Ch.Walk.eq);(case hd=>rfl);(case hi=>rfl);case h=>(intro w2 hw2 N hN;simp only[Ch.depB];go_simp;(try go_bits);with_reducible exact hN _ (ZR.refl _) (fun _ h=>h)))
    ((with_reducible apply Ch.Walk.eq);(case hd=>rfl);(case hi=>rfl);case h=>(intro w2 hw2 N hN;(have hq:=(hw2.nil (Nat.le_refl _)).cell c4 (fun h=>h));simp only[Ch.depB];go_simp;(try go_bits);with_reducible exact hN _ (ZR.refl _) (fun _ h=>h)))
    refine Ch.Walk.sat (fun v w=>∃ a c,v = .slice a L.length c∧BytesAt w a L∧L.length≤c∧c≤maxLen) ?_ rfl rfl ?_ ?_
    ·rintro v w6 w7 ⟨a,c,rfl,hb,hl⟩ hz
     exact⟨a,c,rfl,hz.bytes hb batch0_byte,hl⟩
    ·intro w6 hw6 N hN;have HRE:=Lib.hid (read_any (HSR.out.nil (hw6.nil (Nat.le_refl _))).a ⟨nm.toArray⟩ HLN.out (g.size:Nat) 6000)
     simp only[Ch.depB,Ch.depC,Nat.reduceBEq,Nat.reduceAdd]
     go_simp;refine HRE.out.mono ?_
     rintro e w7 ⟨v,rfl,hfr,hc7⟩
     rw[HRL.out] at hfr;obtain⟨a,c,rfl,hb,hl,_,hm⟩:=hfr
     exact⟨_,rfl,hN _ _ ⟨a,c,rfl,hb,hl,hm⟩ (ZR.of hc7) (fun vs hF=>BatF.nil hc7 vs hF)⟩
    refine Ch.Walk.sat (DecIs wr.heap.size L) ?_ rfl rfl ?_ ?_
    ·exact fun v w6 w7 h hz=>h.zr hz
    ·intro w6 hw6 N hN;simp only[Ch.depB,Ch.depC,Nat.reduceBEq,Nat.reduceAdd]
     rintro v ⟨a,c,rfl,hb,hl,hm⟩
     have HDC:=Lib.hid (decode_out a L c w6 hl hm hb)
     clear hb hl hm;go_simp;refine HDC.out.mono ?_
     rintro e w7 ⟨v,rfl,hv,hc7⟩
     exact⟨_,rfl,hN _ _ (hv.less hw6.size) (ZR.of hc7) (fun vs hF=>BatF.nil hc7 vs hF)⟩
    refine Ch.Walk.sat (DecIs wr.heap.size L) ?_ rfl rfl ?_ ?_
    ·exact fun v w6 w7 h hz=>h.zr hz
    ·intro w6 hw6 N hN;simp only[Ch.depB,Ch.depC,Nat.reduceBEq,Nat.reduceAdd]
     intro v hv;go_simp;exact hN _ _ hv (ZR.refl _) (fun vs hF=>hF)
    refine Ch.Walk.sat (DecBt wr.heap.size L) ?_ rfl rfl ?_ ?_
    ·exact fun v w6 w7 h hz=>h.zr hz
    ·intro w6 hw6 N hN;simp only[Ch.depB,Ch.depC,Nat.reduceBEq,Nat.reduceAdd]
     rintro v ⟨u,rfl,ho,hn⟩
     go_simp;exact hN _ _ ⟨u,rfl,ho,hn⟩ (ZR.refl _) (fun vs hF=>hF)
    (with_reducible apply Ch.Walk.eq);(case hd=>rfl);(case hi=>rfl);case h=>
     intro w6 hw6 N hN;simp only[Ch.depB,Ch.depC,Nat.reduceBEq,Nat.reduceAdd]
     rintro v ⟨u,rfl,ho,hn⟩
     clear ho hn;go_simp;with_reducible exact hN _ (ZR.refl _) (fun _ h=>h)
    (with_reducible apply Ch.Walk.eq);(case hd=>rfl);(case hi=>rfl);case h=>
     intro w6 hw6 N hN;simp only[Ch.depB,Ch.depC,Nat.reduceBEq,Nat.reduceAdd]
     rintro v ⟨u,rfl,ho,hn⟩
     clear ho hn;go_simp;with_reducible exact hN _ (ZR.refl _) (fun _ h=>h)
    simp only[List.nil_append,List.cons_append]
    refine Ch.Walk.chain 0 rfl rfl ?_ ?_
    ·intro w8 hw8 vs hvs hF N hN;obtain rfl:=List.eq_nil_of_length_eq_zero hvs
     simp only[Ch.depB,Ch.depC,Nat.reduceBEq,Nat.reduceAdd]
     go_simp;have hal:=(Chg.refl Nil w8).alloc (.cells #[.int .i64 0,.int .i64 0,.slice none 0 0] 142)
     exact hN _ _ (ZR.of hal) ⟨w8.heap.size,rfl,hw8.size,Box.new w8 [.int .i64 0,.int .i64 0,.slice none 0 0] _⟩
    simp only[List.nil_append,List.cons_append]
    refine Ch.Walk.chainSx (fun b:Nat=>Value.pointer (some ⟨b,0,none⟩)) (fun b w=>wr.heap.size≤b∧Box w b [.int .i64 0,.int .i64 0,.slice none 0 0] 142) (fun _ _ h=>h) rfl rfl ?_ ?_
    ·intro w8 hw8 b hb N hN;have hnb:=hb.1
     have hbx:=hb.2
     clear hb;simp only[Ch.depB,Ch.depC,Nat.reduceBEq,Nat.reduceAdd]
     intro v hv;refine Exists.elim hv fun u hu2=>?_
     have e3:=hu2.1
     have ho:=hu2.2.1
     have hn:=hu2.2.2
     clear hv hu2;subst e3;have hu:=ho.form
     generalize vA u=ua at hu;generalize vC u=uc at hu;subst hu;have hcs:Chg (fun k=>k=b) w8 (((w8.setCell ⟨b,0,none⟩ (.int .i64 (decOut L).base)).setCell ⟨b,1,none⟩ (.int .i64 (decOut L).en)).setCell ⟨b,2,none⟩ (.slice ua (decOut L).rs.length uc)):=(((Chg.refl (fun k=>k=b) w8).setCell (p:=⟨b,0,none⟩) (.inl rfl) _).setCell (p:=⟨b,1,none⟩) (.inl rfl) _).setCell (p:=⟨b,2,none⟩) (.inl rfl) _
     have HZ:=Lib.hid (ZR.store hcs hnb hbx)
     have HB9:Hid (Box (((w8.setCell ⟨b,0,none⟩ (.int .i64 (decOut L).base)).setCell ⟨b,1,none⟩ (.int .i64 (decOut L).en)).setCell ⟨b,2,none⟩ (.slice ua (decOut L).rs.length uc)) b [.int .i64 (decOut L).base,.int .i64 (decOut L).en,.slice ua (decOut L).rs.length uc] 142):=((hbx.set 0 _).set 1 _).set 2 _
     have HO:=Lib.hid (ZR.ownsRow HZ.out ho batch0_rec)
     have HNN:=Lib.hid hn
     have HNB:=Lib.hid hnb
     have b0:=hbx.cell (j:=0) rfl
     have f0:=hbx.free 0
     have b1:=hbx.cell (j:=1) rfl
     have f1:=hbx.free 1
     have b2:=hbx.cell (j:=2) rfl
     have f2:=hbx.free 2
     clear hbx ho hn hcs hnb;go_simp;exact hN _ HZ.out ⟨b,_,rfl,HNB.out,HB9.out,HO.out,HNN.out⟩
    simp only[List.nil_append,List.cons_append]
    ((with_reducible apply Ch.Walk.eq);(case hd=>rfl);(case hi=>rfl);case h=>(intro w2 hw2 N hN;simp only[Ch.depB];go_simp;(try go_bits);with_reducible exact hN _ (ZR.refl _) (fun _ h=>h)))
    intro w6 hw6;simp only[List.nil_append,List.cons_append,Ch.Fin,List.map_cons,List.map_nil,List.getD_cons_zero,List.getD_cons_succ]
    intro v1 _ v2 _ v3 _ v4 _ v5 _ hF;have hF:∃ b u,v5 = .pointer (some ⟨b,0,none⟩)∧wr.heap.size≤b∧Box w6 b [.int .i64 (decOut L).base,.int .i64 (decOut L).en,u] 142∧OwnR 61 w6 u (decOut L).rs∧∀ k,u.ownBlock=some k→wr.heap.size≤k:=hF
    refine Exists.elim hF fun b hF=>?_
    refine Exists.elim hF fun u hF=>?_
    have hv5:=hF.1
    have HNB:=Lib.hid hF.2.1
    have hou:=hF.2.2.2.1
    have hu:=hou.form
    have HNU:=Lib.hid hF.2.2.2.2
    have HW6:Hid (Chg Nil wr w6):=hw6.nil (Nat.le_refl _)
    have hbx:=hF.2.2.1
    clear hF hw6;subst hv5;generalize vA u=ua at hu;generalize vC u=uc at hu;subst hu;have HOU:=Lib.hid hou
    have HBX:=Lib.hid hbx
    clear hbx hou c1 c4;simp only[Ch.Then,Oper.wp]
    by_cases hE:decErr L=0
    ·have hev:errV 39 (decErr L) = .nilIface:=by rw[hE];rfl
     rw[hev];have HGD:=Lib.hid (HGOOD.out hE)
     have hlt3:=HGD.out.2.2.1
     clear hev hE HGOOD HBAD HLI HRL HLL2;have x0:=HBX.out.cell (j:=0) rfl
     have HNXC:=Lib.hid (fun (w':World) (hw:Chg Nil w6 w')=>snext_any ((HSR.out.nil HW6.out).nil hw).m (by rw[HOF.out.pls,plsOf_length,List.length_take];have:=HLL.out;omega))
     go_simp;go_upto_region 7 with fail;refine wp_region_mono _ (Chg Nil) (by kernel_rfl) (fun _ _ _ h k=>h.trans k (fun _ h=>h.elim)) [[],[0],[1],[2],[3,2],[2],[5,2],[4,6,2],[2,7]] rfl (by kernel_rfl) (Chg.refl _ _).drew ?_
     iterate 4 ((with_reducible apply Walk.eq);case h=>(intro w2 hw2 N hN;simp only[depM];go_simp;(try go_bits);with_reducible exact hN _ (Chg.refl _ _)))
     ((with_reducible apply Walk.eq);case h=>(intro w2 hw2 N hN;have hq:=hw2.cell x0 (fun h=>h);simp only[depM];go_simp;with_reducible exact hN _ (Chg.refl _ _)))
     ((with_reducible apply Walk.eq);case h=>(intro w2 hw2 N hN;simp only[depM];go_simp;(try go_bits);with_reducible exact hN _ (Chg.refl _ _)))
     (with_reducible apply Walk.eq);case h=>
      intro w2 hw2 N hN;simp only[depM]
      go_simp;refine (HNXC.out w2 hw2).mono ?_
      rintro e w4 ⟨rfl,hc4⟩
      exact⟨_,rfl,hN _ hc4⟩
     iterate 2 ((with_reducible apply Walk.eq);case h=>(intro w2 hw2 N hN;simp only[depM];go_simp;(try go_bits);with_reducible exact hN _ (Chg.refl _ _)))
     intro w8 hw8;simp only[List.nil_append,List.cons_append,Fin]
     have hbx8:=HBX.out.chg hw8 (fun h=>h)
     have x0:=hbx8.cell (j:=0) rfl
     have x1:=hbx8.cell (j:=1) rfl
     have x2:=hbx8.cell (j:=2) rfl
     have HOU8:Hid (OwnR 61 w8 (.slice ua (decOut L).rs.length uc) (decOut L).rs):=ownsRow_chg HOU.out hw8 (fun _ _ h=>h)
     have HS8:=Lib.hid ((HSR.out.nil HW6.out).nil hw8)
     have HNT:Hid (∀ size:Nat,size=(decOut L).n→Calls Tryz.prog 141 #[.pointer (some ⟨s,0,none⟩),.agg #[.int .i64 (decOut L).base,.int .i64 (decOut L).en,.slice ua (decOut L).rs.length uc],.int .i64 (size:Nat)] w8 fun e w'=>
       e = .returned (.tuple #[])∧∃ v',Sm w' s p v' (g.noted (decOut L).base (decOut L).en (decOut L).rs size)∧Chg (SHas s v) w8 w'∧∀ k,SHas s v' k→SHas s v k∨w8.heap.size≤k):=by
      intro size hsz;obtain⟨ra,rc,hv,hrs,_⟩:=HOU8.out.recs
      simp only[Value.slice.injEq] at hv
      obtain⟨rfl,_,rfl⟩:=hv
      refine snote_any HS8.out.m (by rw[HOF.out.pls,plsOf_length,List.length_take];have:=HLL.out;omega) (decOut L).base (decOut L).en ua (decOut L).rs uc hrs (by have h1:(decOut L).rs.length≤50:=HGD.out.2.1.few;omega) size ?_
      have h1:=HGD.out.2.1.len
      have h2:=HGD.out.2.2.2.1
      have h3:=HAL.out
      have h4:=HFL.out
      omega
     have HC8:=Lib.hid ((HC.out.trans HW6.out (fun _ h=>h.elim)).trans hw8 (fun _ h=>h.elim))
     clear hbx8 hw8;go_simp;go_wp2_with fail;refine (HNT.out (decOut L).n rfl).mono ?_
     rintro e w9 ⟨rfl,v',hm9,hc9,hn9⟩
     have HS9:=Lib.hid (HS8.out.seg hm9 hc9 hn9)
     have HH9:Hid (∀ k,SHas s v' k→n0≤k):=by
      intro k hk;rcases hn9 k hk with h9 | h9
      ·exact HHA.out k h9
      ·have h1:=HC8.out.size
       have h2:=HN0.out
       omega
     have HC9:=Lib.hid (HC8.out.trans hc9 (fun i hi=>.inr (by have:=HHA.out i hi;have:=HN0.out;omega)))
     have hz1:=HSR.out.m.sizeAt
     have hz2:=hm9.sizeAt
     have hz3:(g.noted (decOut L).base (decOut L).en (decOut L).rs (decOut L).n).size=g.size+(decOut L).n:=rfl
     have hz4:=HGD.out.2.1.some
     have hz5:=HGD.out.2.2.2.1
     have HZ:Hid (al-sizeAt w9 s<al-sizeAt wr s):=by unfold Hid;rw[hz1,hz2,hz3];omega
     clear hz1 hz2 hz3 hz4 hz5 hm9 hc9 hn9 HNT x0 x1 x2;go_wp2_with fail;go_roundw
     case rel=>exact⟨_,k+1,v',_,rfl,HGD.out.1,HS9.out,HGN.out,HGB.out,HGD.out.2.2.2.2,HH9.out,HC9.out⟩
     case measure=>exact HZ.out
    ·have hev:errV 39 (decErr L) = .iface 39 (.int .i64 (decErr L:Nat)):=if_neg hE
     rw[hev];have HOF2:=Lib.hid (HBAD.out hE)
     clear hev hE;go_simp;go_upto_region 7 with fail;refine wp_region_mono _ (Chg Nil) (by kernel_rfl) (fun _ _ _ h k=>h.trans k (fun _ h=>h.elim)) [[],[0],[1],[2],[3,2],[2],[5,2],[4,6,2],[2,7]] rfl (by kernel_rfl) (Chg.refl _ _).drew ?_
     iterate 9 ((with_reducible apply Walk.eq);case h=>(intro w2 hw2 N hN;simp only[depM];go_simp;(try go_bits);with_reducible exact hN _ (Chg.refl _ _)))
     intro w8 hw8;simp only[List.nil_append,List.cons_append,Fin]
     have HW8:=Lib.hid hw8
     clear hw8;go_simp;go_wp2_with fail;go_meet
     case rel=>exact⟨v,g,(HSR.out.nil HW6.out).nil HW8.out,HGN.out,HGB.out,HOF2.out,HHA.out,(HC.out.trans HW6.out (fun _ h=>h.elim)).trans HW8.out (fun _ h=>h.elim)⟩
   ·have hlt':¬(g.size:Int)<(al:Int):=by omega
    have HOF2:Hid (SgOf g l):=by
     have h1:=HOF.out
     have h2:k=l.length:=by
      refine take_all HOKL.out HK.out ?_
      have h3:=HAL.out
      have h4:=HGS.out
      rw[List.length_append] at h3;omega
     rw[h2,List.take_length] at h1;exact h1
    clear hlt;go_wp2_with fail;go_meet
    case rel=>exact⟨v,g,HSR.out,HGN.out,HGB.out,HOF2.out,HHA.out,HC.out⟩
 obtain⟨v,g,hsg,hgn,hgb,hof,hhas,hc⟩:=hcut
 have HS1:=Lib.hid hsg
 have HGN:=Lib.hid hgn
 have HGB:=Lib.hid hgb
 have HOF:=Lib.hid hof
 have HHA:Hid (∀ k,SHas s v k→w.heap.size≤k):=fun k hk=>by have:=hhas k hk;have:=HN0.out;omega
 have HC1:=Lib.hid hc
 have c1:=hsg.m.c.cell (j:=1) rfl
 have c4:=hsg.m.c.cell (j:=4) rfl
 rw[hgn] at c1;have HGS:Hid (g.size=(batBs l).length):=hof.size
 clear hsg hgn hgb hof hhas hc HSG HC2 HS0;by_cases hju:junk=[]
 ·have HJU:=Lib.hid hju
  have hga:(g.size:Int)=(al:Int):=by
   have h1:=HAL.out
   have h2:=HGS.out
   rw[hju,List.append_nil] at h1;omega
  have HGA:=Lib.hid hga
  have hlt:¬(g.size:Int)<(al:Int):=by omega
  have hsub:wrap64 ((al:Int)-(g.size:Int))=0:=by unfold wrap64;omega
  clear hga hju;go_wp2_with fail;go_upto_region 13 with fail;refine Ch.wp_region_chain _ (Chg (Nil)) [] (fun _ _=>True) (by kernel_rfl) (fun _=>Chg.refl _ _) (fun _ _ _ h k=>h.trans k (fun _ h=>.inl h)) [[],[],[],[2],[3],[4],[1,5],[0],[6],[]] rfl (by kernel_rfl) (by kernel_rfl) (Chg.refl _ _).drew ?_ ?_
  ·trivial
  iterate 5 ((with_reducible apply Ch.Walk.eq);(case hd=>rfl);(case hi=>rfl);case h=>(intro w2 hw2 N hN;simp only[Ch.depB];go_simp;(try go_bits);with_reducible exact hN _ (Chg.refl _ _) (fun _ h=>h)))
  ((with_reducible apply Ch.Walk.eq);(case hd=>rfl);(case hi=>rfl);case h=>(intro w2 hw2 N hN;(have hq:=hw2.cell c4 (fun h=>h));simp only[Ch.depB];go_simp;(try go_bits);with_reducible exact hN _ (Chg.refl _ _) (fun _ h=>h)))
  iterate 4 ((with_reducible apply Ch.Walk.eq);(case hd=>rfl);(case hi=>rfl);case h=>(intro w2 hw2 N hN;simp only[Ch.depB];go_simp;(try go_bits);with_reducible exact hN _ (Chg.refl _ _) (fun _ h=>h)))
  intro w8 hw8;simp only[List.nil_append,List.cons_append,Ch.Fin,List.map_cons,List.map_nil,List.getD_cons_zero,List.getD_cons_succ]
  intro _;have HW8:=Lib.hid hw8
  clear hw8 hlt hsub c1 c4;go_simp;go_wp2_with fail;go_ret3
  have hR:openR d nm l junk=(0,d):=if_pos HJU.out
  rw[hR];refine⟨(HC1.out.trans HW8.out (fun _ h=>h.elim)).weak (fun _ h=>h.elim),S,(HS1.out.nil HW8.out).ds,.inl ⟨rfl,s,v,g,HHA.out,?_,HS1.out.nil HW8.out,HGN.out,HGB.out,HOF.out⟩⟩
  rw[HJU.out];rfl
 ·have hlt:(g.size:Int)<(al:Int):=by
   have h1:=HAL.out
   have h2:=HGS.out
   have h3:=List.length_pos_iff.2 hju
   rw[List.length_append] at h1;omega
  have HLT:=Lib.hid hlt
  obtain⟨R,hR⟩:∃ R,d.cut nm (g.size:Nat)=R:=⟨_,rfl⟩
  have HR:=Lib.hid hR
  have HRO:Hid (openR d nm l junk=R):=by
   unfold Hid openR;rw[if_neg hju,←hR,HGS.out]
  have HJU:=Lib.hid hju
  have HOP:=Lib.hid (fun (w':World) (h:SgS B w' p s S v d g)=>cut_any h.a ⟨nm.toArray⟩ HLN.out (g.size:Nat))
  clear hR hju;go_upto_region 10 with fail;clear hlt;refine Ch.wp_region_chain _ (Chg (S)) [9] (SopF B p s S v d g R) (by kernel_rfl) (fun _=>Chg.refl _ _) (fun _ _ _ h k=>h.trans k (fun _ h=>.inl h)) [[],[],[1],[2],[3],[],[5],[6],[7],[0,4,8],[9]] rfl (by kernel_rfl) (by kernel_rfl) (Chg.refl _ _).drew ?_ ?_
  ·exact HS1.out.nil (Chg.refl Nil _).drew
  iterate 4 ((with_reducible apply Ch.Walk.eq);(case hd=>rfl);(case hi=>rfl);case h=>(intro w2 hw2 N hN;simp only[Ch.depB];go_simp;(try go_bits);with_reducible exact hN _ (Chg.refl _ _) (fun _ h=>h)))
  ((with_reducible apply Ch.Walk.eq);(case hd=>rfl);(case hi=>rfl);case h=>(intro w2 hw2 N hN;(have hq:=hw2.cell c1 (HS1.out.ap s (.inl rfl)));simp only[Ch.depB];go_simp;(try go_bits);with_reducible exact hN _ (Chg.refl _ _) (fun _ h=>h)))
  iterate 3 ((with_reducible apply Ch.Walk.eq);(case hd=>rfl);(case hi=>rfl);case h=>(intro w2 hw2 N hN;simp only[Ch.depB];go_simp;(try go_bits);with_reducible exact hN _ (Chg.refl _ _) (fun _ h=>h)))
  ((with_reducible apply Ch.Walk.eq);(case hd=>rfl);(case hi=>rfl);case h=>(intro w2 hw2 N hN;(have hq:=hw2.cell c4 (HS1.out.ap s (.inl rfl)));simp only[Ch.depB];go_simp;(try go_bits);with_reducible exact hN _ (Chg.refl _ _) (fun _ h=>h)))
  refine Ch.Walk.chainE 0 (c:=errD R.1) rfl rfl ?_ ?_
  ·intro w6 hw6 vs hvs hF N hN;obtain rfl:=List.eq_nil_of_length_eq_zero hvs
   have F3:SgS B w6 p s S v d g:=hF
   have HO6:=Lib.hid (HOP.out w6 F3)
   have HF3:=Lib.hid F3
   clear F3 hF;simp only[Ch.depB,Ch.depC,Nat.reduceBEq,Nat.reduceAdd]
   go_simp;refine HO6.out.mono ?_
   rintro e w7 ⟨rfl,h2,h3⟩
   have h2:DiskAt w7 p (Gr S w6 w7) (d.cut nm (g.size:Nat)).2:=h2
   have he:errD (d.cut (ByteArray.mk nm.toArray).data.toList (g.size:Nat)).1=errD R.1:=by show errD (d.cut nm (g.size:Nat)).1=_;rw[HR.out]
   rw[HR.out] at h2;rw[he];exact⟨_,rfl,hN _ h3 ⟨_,HF3.out.disk h2 h3⟩⟩
  ((with_reducible apply Ch.Walk.eq);(case hd=>rfl);(case hi=>rfl);case h=>(intro w2 hw2 N hN;simp only[Ch.depB];go_simp;(try go_bits);with_reducible exact hN _ (Chg.refl _ _) (fun _ h=>h)))
  intro w6 hw6;simp only[List.nil_append,List.cons_append,Ch.Fin,List.map_cons,List.map_nil,List.getD_cons_zero,List.getD_cons_succ]
  intro hF;have HF:Hid (∃ S',SgS B w6 p s S' v R.2 g):=hF
  have HW6:=Lib.hid hw6
  clear hF hw6 c1 c4;by_cases hr:R.1=0
  ·have hev:errD R.1 = .nilIface:=by rw[hr];rfl
   rw[hev];have HRZ:=Lib.hid hr
   clear hev hr;refine Exists.elim HF.out fun S9 h9=>?_
   have HS9:=Lib.hid h9
   have c4:=h9.m.c.cell (j:=4) rfl
   have hsub:wrap64 ((al:Int)-(g.size:Int))=(junk.length:Int):=by
    have h1:=HAL.out
    have h2:=HGS.out
    have h3:=HFL.out
    rw[List.length_append] at h1 h3
    unfold wrap64;omega
   clear h9 HF;go_simp;go_wp2_with fail;go_upto_region 13 with fail;refine Ch.wp_region_chain _ (Chg (Nil)) [] (fun _ _=>True) (by kernel_rfl) (fun _=>Chg.refl _ _) (fun _ _ _ h k=>h.trans k (fun _ h=>.inl h)) [[],[],[],[2],[3],[4],[1,5],[0],[6],[]] rfl (by kernel_rfl) (by kernel_rfl) (Chg.refl _ _).drew ?_ ?_
   ·trivial
   iterate 5 ((with_reducible apply Ch.Walk.eq);(case hd=>rfl);(case hi=>rfl);case h=>(intro w2 hw2 N hN;simp only[Ch.depB];go_simp;(try go_bits);with_reducible exact hN _ (Chg.refl _ _) (fun _ h=>h)))
   ((with_reducible apply Ch.Walk.eq);(case hd=>rfl);(case hi=>rfl);case h=>(intro w2 hw2 N hN;(have hq:=hw2.cell c4 (fun h=>h));simp only[Ch.depB];go_simp;(try go_bits);with_reducible exact hN _ (Chg.refl _ _) (fun _ h=>h)))
   iterate 4 ((with_reducible apply Ch.Walk.eq);(case hd=>rfl);(case hi=>rfl);case h=>(intro w2 hw2 N hN;simp only[Ch.depB];go_simp;(try go_bits);with_reducible exact hN _ (Chg.refl _ _) (fun _ h=>h)))
   intro w8 hw8;simp only[List.nil_append,List.cons_append,Ch.Fin,List.map_cons,List.map_nil,List.getD_cons_zero,List.getD_cons_succ]
   intro _;have HW8:=Lib.hid hw8
   clear hw8 hsub c4;go_simp;go_wp2_with fail;go_ret3
   rw[HRO.out];exact⟨((HC1.out.weak (S':=S) (fun _ h=>h.elim)).trans HW6.out (fun _ h=>.inl h)).trans HW8.out (fun _ h=>h.elim),S9,(HS9.out.nil HW8.out).ds,.inl ⟨HRZ.out,s,v,g,HHA.out,rfl,HS9.out.nil HW8.out,HGN.out,HGB.out,HOF.out⟩⟩
  ·have hev:errD R.1 = .iface 39 (.int .i64 (R.1:Nat)):=errD_ne hr
   rw[hev];have HRZ:=Lib.hid hr
   clear hev hr;go_simp;go_wp2_with fail;go_ret3
   rw[HRO.out];obtain⟨S9,h9⟩:=HF.out
   exact⟨(HC1.out.weak (S':=S) (fun _ h=>h.elim)).trans HW6.out (fun _ h=>.inl h),S9,h9.ds,.inr ⟨HRZ.out,congrArg (fun v=>Ending.returned (.tuple #[.pointer none,.int .i64 0,v])) (errD_ne HRZ.out).symm⟩⟩
end Go.Proofs.YtobegmcbfgnpnaaGreatDoor
