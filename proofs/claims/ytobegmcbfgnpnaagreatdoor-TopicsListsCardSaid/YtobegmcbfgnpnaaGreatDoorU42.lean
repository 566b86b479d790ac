/-
  Opening all partitions, plain. (Of the topics' seat.)
-/
import Derived.Test.YtobegmcbfgnpnaaGreatDoorU38
import Derived.Test.YtobegmcbfgnpnaaGreatDoorU41
set_option linter.unusedVariables false
set_option linter.unusedSimpArgs false
set_option maxHeartbeats 0
set_option maxRecDepth 200000
namespace Go.Proofs.YtobegmcbfgnpnaaGreatDoor
open Go.RowKit Go.Lib Go.Shelf
def topicsN:Nm:=[116,111,112,105,99,115]
def EmptyD (d:Dk):Prop:=∀ x f,d.find x=some f→x≠topicsN→f.bytes=[]
theorem EmptyD.step {d:Dk}(h:EmptyD d):EmptyD d.step:=h
theorem EmptyD.del {d:Dk}(h:EmptyD d) (x:Nm):EmptyD (d.del x):=fun y f hf hy=>by
 rw[find_del] at hf;split at hf
 ·cases hf
 ·exact h y f hf hy
theorem EmptyD.put {d:Dk}(h:EmptyD d) (x:Nm):EmptyD (d.put x ⟨[],0⟩):=fun y f hf hy=>by
 rw[find_put] at hf;split at hf
 ·rw[←Option.some.inj hf]
 ·exact h y f hf hy
theorem EmptyD.turn {d:Dk}(h:EmptyD d) {x:Nm}{f:Fl}(hf:d.find x=some f) (k:Nat):EmptyD (d.turn x ⟨f.bytes,k⟩):=fun y g hg hy=>by
 rw[find_turn] at hg;split at hg
 ·next e=>
  subst e;rw[hf] at hg;rw[←Option.some.inj hg]
  exact h y f hf hy
 ·exact h y g hg hy
theorem EmptyD.make {d:Dk}(h:EmptyD d) (x:Nm):EmptyD (d.make x).2:=by
 unfold Dk.make;repeat' split
 ·exact h
 ·exact h.step
 ·exact h.step
 ·exact h.step
 ·exact h.step.put x
theorem EmptyD.remove {d:Dk}(h:EmptyD d) (x:Nm):EmptyD (d.remove x).2:=by
 unfold Dk.remove Dk.at;repeat' split
 ·exact h
 ·exact h.step
 ·exact h.step.del x
theorem EmptyD.sync {d:Dk}(h:EmptyD d) (x:Nm):EmptyD (d.sync x).2:=by
 unfold Dk.sync Dk.at;split
 ·exact h
 ·cases hf:d.find x with
  | none=>exact h.step
  | some f=>exact EmptyD.turn (d:=d.step) h.step hf _
def noB:Nat→List Bt×List UInt8:=fun _=>([],[])
theorem EmptyD.openGo {dir:Nm}:∀ (L:List Nm) {d:Dk} (ss:List Sg) (dn:Bool),EmptyD d→EmptyD (openGo dir noB L d ss dn).2.1
 | [],d,ss,dn,h=>h
 | x::r,d,ss,dn,h=>by
  unfold Go.Proofs.YtobegmcbfgnpnaaGreatDoor.openGo;split
  ·split
   ·exact EmptyD.openGo r ss dn (h.remove x)
   ·exact h.remove x
  ·split
   ·exact EmptyD.openGo r _ _ h
   ·exact h
theorem EmptyD.openEnd {start:Int}{d:Dk}{g:Lg}(h:EmptyD d):EmptyD (openEnd start d g).2.1:=by
 unfold Go.Proofs.YtobegmcbfgnpnaaGreatDoor.openEnd;split<;>exact h.sync _
theorem EmptyD.openLg {dir:Nm}{most start:Int}{d:Dk}(h:EmptyD d):EmptyD (openLg noB dir most start d).2.1:=by
 unfold Go.Proofs.YtobegmcbfgnpnaaGreatDoor.openLg;split
 ·unfold openMid;split
  ·split
   ·exact (((EmptyD.openGo _ _ _ h)).make _).openEnd
   ·exact ((EmptyD.openGo _ _ _ h)).make _
  ·exact (EmptyD.openGo _ _ _ h).openEnd
 ·exact EmptyD.openGo _ _ _ h
theorem look_mem:∀ {fs:List (Nm×Fl)}{x:Nm},x∈fs.map (·.1)→∃ f,fs.lookup x=some f
 | [],x,h=>by cases h
 | (a,f)::r,x,h=>by
  by_cases hx:x=a
  ·subst hx;exact⟨f,by simp[List.lookup_cons]⟩
  ·rw[List.map_cons] at h;rcases List.mem_cons.1 h with h | h
   ·exact absurd h hx
   ·obtain⟨g,hg⟩:=look_mem h
    have e:(x==a)=false:=beq_eq_false_iff_ne.2 hx
    exact⟨g,by rw[List.lookup_cons,e];exact hg⟩
theorem topics_no {dir x:Nm}(h:(dir++[47]).isPrefixOf x=true):x≠topicsN:=fun e=>by
 rw[List.isPrefixOf_iff_prefix] at h;obtain⟨r,hr⟩:=h
 have h1:(47:UInt8)∈topicsN:=by rw[←e,←hr];simp
 exact absurd h1 (by decide)
theorem EmptyD.fd {d:Dk}(h:EmptyD d) {dir:Nm}:∀ x∈d.list (dir++[47]),¬progBase dir x<0→FdOk d dir (progBase dir x).toNat (noB (progBase dir x).toNat):=by
 intro x hx hp;obtain⟨h1,h2⟩:=list_mem.1 hx
 obtain⟨h3,h4⟩:=prog_name hp
 have hf:∃ f,d.find x=some f:=look_mem h1
 obtain⟨f,hf⟩:=hf
 have hb:=h x f hf (topics_no h2)
 refine⟨h4,⟨f.safe,?_⟩,fun b hb=>(by cases hb),trivial,fun hne=>absurd rfl hne⟩
 rw[h3,hf];cases f
 simp only at hb
 rw[hb];rfl
def openOne (most:Int) (n:List UInt8) (k:Nat) (start:Int) (d:Dk):Nat×Dk:=
 if 1099511627776<start then (2,d) else ((openLg noB (dirOf n k) most start d).1,(openLg noB (dirOf n k) most start d).2.1)
def partsGo (most:Int) (n:List UInt8):List Int→Nat→Dk→Nat×Dk
 | [],_,d=>(0,d)
 | v::r,k,d=>if (openOne most n k v d).1=0 then partsGo most n r (k+1) (openOne most n k v d).2 else openOne most n k v d
def topsGo (most:Int):List Tp→Dk→Nat×Dk
 | [],d=>(0,d)
 | t::r,d=>if (partsGo most t.name t.starts 0 d).1=0 then topsGo most r (partsGo most t.name t.starts 0 d).2 else partsGo most t.name t.starts 0 d
theorem EmptyD.one {most:Int}{n:List UInt8}{k:Nat}{start:Int}{d:Dk}(h:EmptyD d):EmptyD (openOne most n k start d).2:=by
 unfold openOne;split
 ·exact h
 ·exact h.openLg
end Go.Proofs.YtobegmcbfgnpnaaGreatDoor
