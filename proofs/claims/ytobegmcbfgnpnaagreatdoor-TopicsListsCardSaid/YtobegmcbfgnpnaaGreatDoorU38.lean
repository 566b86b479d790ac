/-
  ListBig and sameTopics. (Of the topics' seat.)
-/
import Derived.Test.YtobegmcbfgnpnaaGreatDoorU37
set_option linter.unusedVariables false
set_option linter.unusedSimpArgs false
set_option maxHeartbeats 0
set_option maxRecDepth 200000
namespace Go.Proofs.YtobegmcbfgnpnaaGreatDoor
open Go.RowKit Go.Lib Go.Shelf
theorem fieldsGo_size:∀ (l cur:List UInt8),(fieldsGo cur l).length≤l.length+1∧∀ x∈fieldsGo cur l,x.length≤cur.length+l.length
 | [],cur=>by
  cases cur with
  | nil=>simp[fieldsGo]
  | cons a r=>simp[fieldsGo]
 | b::l,cur=>by
  cases hb:isSp b
  ·rw[fieldsGo_more cur b l hb]
   obtain⟨h1,h2⟩:=fieldsGo_size l (cur++[b])
   refine⟨by simp;omega,fun x hx=>?_⟩
   have:=h2 x hx
   simp at this ⊢
   omega
  ·obtain⟨h1,h2⟩:=fieldsGo_size l []
   cases cur with
   | nil=>
    rw[fieldsGo_sp b l hb]
    refine⟨by simp;omega,fun x hx=>?_⟩
    have:=h2 x hx
    simp at this ⊢
    omega
   | cons a r=>
    rw[fieldsGo_end _ b l hb (by simp)]
    refine⟨by simp;omega,fun x hx=>?_⟩
    rcases List.mem_cons.1 hx with rfl | hx
    ·simp
    ·have:=h2 x hx
     simp at this ⊢
     omega
def TabA (w:World):Prop:=Lib.TabIs Tryz.prog w "strings.asciiSpace" .u8 Lib.asciiSpaceTab
theorem big_any {w:World} (hT:∀ W,Chg Nil w W→TabE W) (hA:TabA w) (text:ByteArray) (hs:text.size≤2000) (hascii:∀ b∈text.data.toList,b.toNat<128) :
  Calls Tryz.prog 12 #[.string text] w fun e w'=>∃ b,e = .returned (.bool b)∧Chg Nil w w'∧(b=false→∀ x∈fields text.data.toList,∀ v,atoiAll x = .ok v→v≤1099511627776):=by
 have hF:=Any.strings_Fields_laid Tryz.laysM157 text w (by omega) (fun j b hb=>hascii b (List.mem_of_getElem? hb)) hA
 change Calls Tryz.prog 68 _ _ (fun e w'=>e = .returned (.slice (some ⟨w.heap.size,0,none⟩) (fields text.data.toList).length (fields text.data.toList).length)∧w'=w.alloc (.cells ((fields text.data.toList).map fun l=>Value.string ⟨l.toArray⟩).toArray 9)) at hF
 obtain⟨h1,h2⟩:=fieldsGo_size text.data.toList []
 change (fields text.data.toList).length≤_ at h1
 change ∀ x∈fields text.data.toList,_ at h2
 obtain⟨fs,hfs⟩:∃ fs,fields text.data.toList=fs:=⟨_,rfl⟩
 rw[hfs] at hF h1 h2 ⊢
 rw[size_eq] at hs;obtain⟨n,hn⟩:∃ n,fs.length=n:=⟨_,rfl⟩
 rw[hn] at hF h1
 have hn3:(n:Int)≤2001:=by omega
 have HFS:Hid (∀ x∈fs,(⟨x.toArray⟩:ByteArray).size≤1000000):=fun x hx=>by
  have h3:=h2 x hx
  rw[size_eq];show x.length≤_
  simp only[List.length_nil,Nat.zero_add] at h3
  omega
 have HNN:=Lib.hid hn
 have HT:=Lib.hid hT
 have HF:=Lib.hid hF
 clear hT hA hF h1 h2 hs hascii hfs hn;go_enter Tryz.func12,Tryz.ntmps12
 go_wp2_with (go_at_call 68;refine HF.out.mono ?_;rintro e w' ⟨rfl,rfl⟩)
 obtain⟨g,hg⟩:∃ g,w.heap.size=g:=⟨_,rfl⟩
 obtain⟨w1,hw1⟩:∃ w1,w.alloc (.cells (fs.map fun l=>Value.string ⟨l.toArray⟩).toArray 9)=w1:=⟨_,rfl⟩
 have HC1:Hid (Chg Nil w w1):=by rw[←hw1];exact (Chg.refl Nil w).alloc _
 have HBW:Hid (Box w1 g (fs.map fun l=>Value.string ⟨l.toArray⟩) 9):=by
  rw[←hw1,←hg];exact Box.new w (fs.map fun l=>Value.string ⟨l.toArray⟩) _
 rw[hg,hw1];clear hg hw1;go_loopw [10] (fun iv wr=>∃ (wq:World) (i:Nat),wq=wr∧i≤n∧iv = .int .i64 i∧Hid (∀ x∈fs.take i,∀ v,atoiAll x = .ok v→v≤1099511627776)∧Hid (Chg Nil w1 wr)) (fun iv _=>n-(RowKit.intOf iv).toNat)
 case atStart=>exact⟨_,0,rfl,Nat.zero_le _,rfl,fun x hx=>(by cases hx),Chg.refl _ _⟩
 case round=>
  obtain⟨wr,i,rfl,hi,rfl,HALL,HC⟩:=hrel
  have HCA:=Lib.hid (HC1.out.trans HC.out (fun _ h=>.inl h))
  by_cases hin:i<n
  ·have hii:(i:Int)<(n:Int):=by omega
   have hie:i<fs.length:=by rw[HNN.out];exact hin
   obtain⟨x,hx⟩:∃ x,fs[i]=x:=⟨_,rfl⟩
   obtain⟨y,hy⟩:∃ y:ByteArray,(⟨x.toArray⟩:ByteArray)=y:=⟨_,rfl⟩
   have py:wr.cell? ⟨g,i,none⟩=some (.string y):=(HBW.out.chg HC.out (fun h=>h)).cell (j:=i) (by rw[List.getElem?_map,List.getElem?_eq_getElem hie,hx,←hy];rfl)
   have hys:y.size≤1000000:=by rw[←hy];exact HFS.out x (by rw[←hx];exact List.getElem_mem hie)
   have HTK:Hid (fs.take (i+1)=fs.take i++[x]):=by show _=_;rw[List.take_succ_eq_append_getElem hie,hx]
   have HYX:Hid (y.data.toList=x):=by show _=_;rw[←hy]
   have HAT:=Lib.hid (atoiBig_any (HT.out wr HCA.out) y hys)
   have HIN:=Lib.hid hin
   clear hx hy hys hie;go_wp2_with fail;refine HAT.out.mono ?_
   rintro e w8 ⟨hc8,⟨v,hv,rfl⟩ | ⟨hno,v,t,N,rfl⟩⟩
   ·have HC8:=Lib.hid (HC.out.trans hc8 (fun _ h=>.inl h))
    have HCA8:=Lib.hid (HCA.out.trans hc8 (fun _ h=>.inl h))
    have HV:=Lib.hid hv
    clear hc8 hv py hin;by_cases hbig:(1099511627776:Int)<v
    ·go_wp2_with fail;go_ret;exact⟨true,rfl,HCA8.out,fun h=>(by cases h)⟩
    ·have HBG:=Lib.hid hbig
     go_wp2_with fail;go_roundw
     case rel=>
      refine⟨_,i+1,rfl,HIN.out,by simp,fun z hz u hu=>?_,HC8⟩
      rw[HTK.out] at hz;rcases List.mem_append.1 hz with hz | hz
      ·exact HALL.out z hz u hu
      ·obtain rfl:=List.mem_singleton.1 hz
       have h1:=HV.out
       rw[HYX.out,hu] at h1;have h2:=NumEnd.ok.inj h1
       have h3:=HBG.out
       omega
     case measure=>have:=HIN.out;simp[RowKit.intOf];omega
   ·have HC8:=Lib.hid (HC.out.trans hc8 (fun _ h=>.inl h))
    have HNO:=Lib.hid hno
    clear hc8 hno py hin;go_wp2_with fail;go_roundw
    case rel=>
     refine⟨_,i+1,rfl,HIN.out,by simp,fun z hz u hu=>?_,HC8⟩
     rw[HTK.out] at hz;rcases List.mem_append.1 hz with hz | hz
     ·exact HALL.out z hz u hu
     ·obtain rfl:=List.mem_singleton.1 hz
      exact absurd (by rw[HYX.out];exact hu) (HNO.out u)
    case measure=>have:=HIN.out;simp[RowKit.intOf];omega
  ·have hie:i=n:=by omega
   subst hie;have hnn:¬(i:Int)<(i:Int):=by omega
   have HTT:Hid (fs.take i=fs):=List.take_of_length_le (by rw[HNN.out];exact Nat.le_refl _)
   clear hin;go_wp2_with fail;go_ret;refine .inl ⟨rfl,HCA.out,?_⟩
   have h:=HALL.out
   rw[HTT.out] at h;exact h
theorem OwnTp.val {w:World}{v:Value}{l:List Tp}(h:OwnTp w v l):∃ a cap,v = .slice a l.length cap∧l.length≤cap∧∀ i (h:i<l.length),∃ g,a=some ⟨g,0,none⟩∧w.cell? ⟨g,i*3,none⟩=some (.string ⟨l[i].name.toArray⟩)∧w.cell? ⟨g,i*3+1,none⟩=some (.int .i64 (l[i].starts.length:Nat))∧w.cell? ⟨g,i*3+2,none⟩=some (.bool l[i].comp):=by
 rcases h.2 with ⟨rfl,hn⟩ | ⟨g,cap,cur,rfl,_,_,hle,_⟩
 ·exact⟨none,0,by rw[hn],by omega,fun i hi=>absurd hi (by omega)⟩
 ·have e1:∀ j,(⟨g,0,none⟩:Addr).add j=⟨g,j,none⟩:=fun j=>by unfold Addr.add;split<;>simp_all
  have hget:∀ (l:List Tp) i (hi:i<l.length) j (u:Value),(l[i].top)[j]? = some u→(l.flatMap Tp.top)[i*3+j]? = some u:=by
   intro l;induction l with
   | nil=>intro i hi;cases hi
   | cons t r ih=>
    intro i hi j u hu;rw[List.flatMap_cons];cases i with
    | zero=>
     rw[Nat.zero_mul,Nat.zero_add];have hj:j<t.top.length:=(List.getElem?_eq_some_iff.1 hu).1
     rw[List.getElem?_append_left hj]
     exact hu
    | succ i=>
     have e3:t.top.length=3:=rfl
     rw[List.getElem?_append_right (by rw[e3];omega),e3,show (i+1)*3+j-3=i*3+j by omega]
     exact ih i (by simpa using hi) j u hu
  refine⟨some ⟨g,0,none⟩,cap,rfl,hle,fun i hi=>⟨g,rfl,?_,?_,?_⟩⟩
  ·have:=World.ownsRow.cells h (g:=g) rfl (i*3+0) _ (hget l i hi 0 _ rfl)
   rwa [e1] at this
  ·have:=World.ownsRow.cells h (g:=g) rfl (i*3+1) _ (hget l i hi 1 _ rfl)
   rwa [e1] at this
  ·have:=World.ownsRow.cells h (g:=g) rfl (i*3+2) _ (hget l i hi 2 _ rfl)
   rwa [e1] at this
theorem sameTopics_any {w:World} {va vb:Value} {ts:List Tp} (ha:OwnTp w va ts) (hb:OwnTp w vb ts) (hl:ts.length≤10000) :
  Calls Tryz.prog 13 #[va,vb] w fun e w'=>e = .returned (.bool true)∧Chg Nil w w':=by
 obtain⟨a,ca,rfl,hca,hA⟩:=ha.val
 obtain⟨b,cb,rfl,hcb,hB⟩:=hb.val
 have HA:=Lib.hid hA
 have HB:=Lib.hid hB
 obtain⟨n,hn⟩:∃ n,ts.length=n:=⟨_,rfl⟩
 have HN:=Lib.hid hn
 rw[hn] at hl ⊢
 clear ha hb hca hcb hA hB hn;go_enter Tryz.func13,Tryz.ntmps13
 go_wp2_with fail;go_loopw [5] (fun i wr=>∃ (wq:World) (k:Nat),wq=wr∧k≤n∧i = .int .i64 k∧Chg Nil w wr) (fun i _=>n-(RowKit.intOf i).toNat)
 case atStart=>exact⟨_,0,rfl,by omega,rfl,Chg.refl _ _⟩
 case round=>
  obtain⟨wr,k,rfl,hk,rfl,hc⟩:=hrel
  by_cases hkl:k<n
  ·have hki:(k:Int)<(n:Int):=by omega
   have hkt:k<ts.length:=by rw[HN.out];exact hkl
   obtain⟨g,rfl,h1,h2,h3⟩:=HA.out k hkt
   obtain⟨q,rfl,h4,h5,h6⟩:=HB.out k hkt
   have y1:=hc.cell h1 (fun h=>h)
   have y2:=hc.cell h2 (fun h=>h)
   have y3:=hc.cell h3 (fun h=>h)
   have y4:=hc.cell h4 (fun h=>h)
   have y5:=hc.cell h5 (fun h=>h)
   have y6:=hc.cell h6 (fun h=>h)
   obtain⟨s1,hs1⟩:∃ s1:ByteArray,(⟨ts[k].name.toArray⟩:ByteArray)=s1:=⟨_,rfl⟩
   obtain⟨s2,hs2⟩:∃ s2,ts[k].starts.length=s2:=⟨_,rfl⟩
   obtain⟨s3,hs3⟩:∃ s3,ts[k].comp=s3:=⟨_,rfl⟩
   rw[hs1] at y1 y4
   rw[hs2] at y2 y5
   rw[hs3] at y3 y6
   clear h1 h2 h3 h4 h5 h6 hs1 hs2 hs3;go_upto_region 6 with fail;go_quiet (fail)
   go_wp2_with fail;go_roundw
   case rel=>exact⟨_,k+1,rfl,by omega,by go_num,hc.drewN _⟩
   case measure=>simp[RowKit.intOf];omega
  ·have hki:¬(k:Int)<(n:Int):=by omega
   go_wp2_with fail;go_ret;exact⟨rfl,hc⟩
end Go.Proofs.YtobegmcbfgnpnaaGreatDoor
