/-
  Two more steps of a drawn region's chain.
-/
import Derived.Test.YtmaomebnigcgeaaGreatDoorTe01
import Derived.Test.YtmaomebnigcgeaaGreatDoorTe02
import Derived.Deep.CutBlock
import Derived.Deep.DeepCutAuto
import Derived.Test.YtmaomebnigcgeaaGreatDoorRecL
import Derived.Test.YtmaomebnigcgeaaGreatDoorChecked
import Derived.Deep.Slices
import Derived.Deep.Fields
import Derived.ChangeSame
import Derived.ProofKit
import Derived.OpenShut
import Derived.Test.YtmaomebnigcgeaaGreatDoorBase
set_option linter.unusedSimpArgs false
set_option linter.unusedVariables false
namespace Go.Proofs.YtmaomebnigcgeaaGreatDoor.Ch
section
variable {P : Program} {ops : Array Oper} {R : World → World → Prop} {C : List Nat} {F : List Value → World → Prop} {w0 : World} {Q : Exit → Act → World → Prop} {a0 : Act}
/-- The chain's second value. -/
theorem Walk.chainV {js : List Nat} {E : List (List Nat)} {o : Oper} {os : List Oper} {specs : List Spec} (hd : o.dst.isSome = true) (hi : C[1]? = some specs.length)
    (h : ∀ w, R w0 w → ∀ x : Value, F [x] w → ∀ N : Value → World → Prop, (∀ v w', R w w' → F [x, v] w' → N v w') → Ob P ops o N w (depsOf ops (chained C [x] specs) js) a0)
    (hrest : Walk P ops R C F w0 Q a0 E os (specs ++ [Sum.inr (Sum.inl fun _ _ => True)])) : Walk P ops R C F w0 Q a0 (js :: E) (o :: os) specs :=
  Walk.chain 1 hd hi (fun w hw vs hvs hF N hN => by
    obtain ⟨x, rfl⟩ := List.length_eq_one_iff.1 hvs
    exact h w hw x hF N hN) hrest
/-- The chain's third value. -/
theorem Walk.chainW {js : List Nat} {E : List (List Nat)} {o : Oper} {os : List Oper} {specs : List Spec} (hd : o.dst.isSome = true) (hi : C[2]? = some specs.length)
    (h : ∀ w, R w0 w → ∀ x y : Value, F [x, y] w → ∀ N : Value → World → Prop, (∀ v w', R w w' → F [x, y, v] w' → N v w') → Ob P ops o N w (depsOf ops (chained C [x, y] specs) js) a0)
    (hrest : Walk P ops R C F w0 Q a0 E os (specs ++ [Sum.inr (Sum.inl fun _ _ => True)])) : Walk P ops R C F w0 Q a0 (js :: E) (o :: os) specs :=
  Walk.chain 2 hd hi (fun w hw vs hvs hF N hN => by
    rcases vs with _ | ⟨x, _ | ⟨y, _ | ⟨z, r⟩⟩⟩ <;> simp at hvs
    exact h w hw x y hF N hN) hrest
end
end Go.Proofs.YtmaomebnigcgeaaGreatDoor.Ch

/-
  The walk of SegmentTears. (Closed facts of the kernel apart: KRAUX.)
-/
set_option linter.unusedSimpArgs false
set_option linter.unusedVariables false
namespace Go.Proofs.YtmaomebnigcgeaaGreatDoor
open Go.RowKit Go.Maps

theorem cut_take (a : List UInt8) {k : Nat} (h : k ≤ a.length) : (ByteArray.mk a.toArray).extract 0 k = ByteArray.mk (a.take k).toArray := by
  rw [ByteArray.ext_iff]
  simp
theorem cat_strs (a b : List UInt8) : (ByteArray.mk a.toArray) ++ (ByteArray.mk b.toArray) = ByteArray.mk (a ++ b).toArray := by
  rw [ByteArray.ext_iff]
  simp
theorem batch_errs {base : Int} {rs : List Rec} (h0 : 0 ≤ base) (hl : rs.length ≤ 60) (h1 : base ≤ 1099511627000) : base + (rs.length : Int) ≤ 1099511627776 := by omega
/-- The disk under the segment is cut, and added to. -/
def DkI (B : Nat → Prop) (w : World) (p : Nat) (nm : Nm) (bs : List UInt8) : Prop := ∃ S d, DsS B w p S d ∧ One d 1048576 nm bs
theorem SgI.dk {B : Nat → Prop} {w : World} {p s : Nat} {S : Nat → Prop} {v : Value} {nm : Nm} {base : Int} {l : List Bt} (h : SgI B w p s S v nm base l) : DkI B w p nm (batBs l) := by
  obtain ⟨d, g, h1, h2, _⟩ := h
  exact ⟨S, d, h1.ds, h2⟩
theorem DkI.nil {B : Nat → Prop} {w w' : World} {p : Nat} {nm : Nm} {bs : List UInt8} (h : DkI B w p nm bs) (hc : Chg Nil w w') : DkI B w' p nm bs := by
  obtain ⟨S, d, h1, h2⟩ := h
  exact ⟨S, d, h1.nil hc, h2⟩
theorem DsS.off {B : Nat → Prop} {w w' : World} {p : Nat} {S : Nat → Prop} {d : Dk} (h : DsS B w p S d) (hc : Chg S w w') : Chg (Off B) w w' := hc.weak fun k hk => .inl (h.sl k hk).1
theorem DkI.read {B : Nat → Prop} {w : World} {p : Nat} {nm : Nm} {bs : List UInt8} (h : DkI B w p nm bs) (hn : nm.length ≤ 1000) (hl : bs.length ≤ 1048576) :
    Calls Tryz.prog 30 #[.pointer (some ⟨p, 0, none⟩), .string ⟨nm.toArray⟩, .int .i64 0, .int .i64 1048576] w fun e w' => ∃ a c, e = .returned (.slice a bs.length c) ∧ BytesAt w' a bs ∧ Chg Nil w w' := by
  obtain ⟨S, d, h1, h2⟩ := h
  have h3 := read_any h1.a ⟨nm.toArray⟩ (by show nm.toArray.size ≤ 4611686018427387904; simp; omega) 0 1048576
  have e1 : d.read (ByteArray.mk nm.toArray).data.toList 0 1048576 = bs := read_whole h2 hl
  rw [e1] at h3
  exact h3.mono fun e w' ⟨v, h1, ⟨a, c, hv, hb, _, _⟩, h3⟩ => ⟨a, c, by rw [h1, hv], hb, h3⟩
theorem DkI.cut {B : Nat → Prop} {w : World} {p : Nat} {nm : Nm} {bs : List UInt8} (h : DkI B w p nm bs) (hn : nm.length ≤ 1000) {k : Nat} (hk : k ≤ bs.length) :
    Calls Tryz.prog 32 #[.pointer (some ⟨p, 0, none⟩), .string ⟨nm.toArray⟩, .int .i64 (k : Nat)] w fun e w' => e = .returned .nilIface ∧ DkI B w' p nm (bs.take k) ∧ Chg (Off B) w w' := by
  obtain ⟨S, d, h1, h2⟩ := h
  have h3 := cut_any h1.a ⟨nm.toArray⟩ (by show nm.toArray.size ≤ 4611686018427387904; simp; omega) (k : Nat)
  obtain ⟨d', hd', ho'⟩ := h2.cut hk
  have e1 : d.cut (ByteArray.mk nm.toArray).data.toList (k : Nat) = (0, d') := hd'
  rw [e1] at h3
  exact h3.mono fun e w' ⟨h4, h5, h6⟩ => ⟨h4, ⟨_, _, h1.disk h5 h6, ho'⟩, h1.off h6⟩
theorem DkI.add {B : Nat → Prop} {w : World} {p : Nat} {nm : Nm} {bs : List UInt8} (h : DkI B w p nm bs) (hn : nm.length ≤ 1000) (ba : Option Addr) (l : List UInt8) (bc : Nat) (hb : BytesAt w ba l) (hbn : l ≠ [] → ∀ x, ba = some x → B x.block) (hl : bs.length + l.length ≤ 1048576) :
    Calls Tryz.prog 33 #[.pointer (some ⟨p, 0, none⟩), .string ⟨nm.toArray⟩, .slice ba l.length bc] w fun e w' => e = .returned .nilIface ∧ DkI B w' p nm (bs ++ l) ∧ Chg (Off B) w w' := by
  obtain ⟨S, d, h1, h2⟩ := h
  have h3 := add_any h1.a ⟨nm.toArray⟩ (by show nm.toArray.size ≤ 4611686018427387904; simp; omega) ba l bc (by omega) hb (fun h0 x hx hs => (h1.sl _ hs).1 (hbn h0 x hx))
  obtain ⟨d', hd', ho'⟩ := (h2.add l).2 (by omega)
  have e1 : d.add (ByteArray.mk nm.toArray).data.toList l = (0, d') := hd'
  rw [e1] at h3
  exact h3.mono fun e w' ⟨h4, h5, h6⟩ => ⟨h4, ⟨_, _, h1.disk h5 h6, ho'⟩, h1.off h6⟩
theorem DkI.size {B : Nat → Prop} {w : World} {p : Nat} {nm : Nm} {bs : List UInt8} (h : DkI B w p nm bs) (hn : nm.length ≤ 1000) :
    Calls Tryz.prog 23 #[.pointer (some ⟨p, 0, none⟩), .string ⟨nm.toArray⟩] w fun e w' => e = .returned (.int .i64 (bs.length : Nat)) ∧ Chg Nil w w' := by
  obtain ⟨S, d, h1, h2⟩ := h
  have h3 := size_any h1.a ⟨nm.toArray⟩ (by show nm.toArray.size ≤ 4611686018427387904; simp; omega)
  have e1 : d.size (ByteArray.mk nm.toArray).data.toList = (bs.length : Nat) := h2.size
  rw [e1] at h3
  refine h3.mono ?_
  rintro e w' ⟨h4, h5⟩
  rw [h5]
  exact ⟨h4, Chg.refl _ _⟩
theorem DkI.open' {B : Nat → Prop} {w : World} {p : Nat} {bs : List UInt8} {base : Nat} (h : DkI B w p (segName [115] base) bs) (hT : Tabs w) (hb : base ≤ 1099511627776) (l : List Bt) (junk : List UInt8) (he : bs = batBs l ++ junk) (hok : ∀ b ∈ l, b.Ok) (hup : rising base l) (hj : junk ≠ [] → decErr (junk.take 6000) ≠ 0) :
    Calls Tryz.prog 8 #[.pointer (some ⟨p, 0, none⟩), .string ⟨#[115]⟩, .int .i64 (base : Nat)] w fun e w' => (∃ t S' v', e = .returned (.tuple #[.pointer (some ⟨t, 0, none⟩), .int .i64 (junk.length : Nat), .nilIface]) ∧ SgI B w' p t S' v' (segName [115] base) base l) ∧ Chg (Off B) w w' := by
  obtain ⟨S, d, h1, h2⟩ := h
  subst he
  obtain ⟨sf, hf⟩ := h2.find
  have h3 := sopen_any h1 hT ⟨#[115]⟩ (by decide) base hb l junk sf hf hok hup hj
  have e1 : segName (ByteArray.mk #[115]).data.toList base = segName [115] base := rfl
  rw [e1] at h3
  obtain ⟨R, hR, hR0, hR1⟩ : ∃ R, openR d (segName [115] base) l junk = R ∧ R.1 = 0 ∧ One R.2 1048576 (segName [115] base) (batBs l) := by
    unfold openR
    by_cases hz : junk = []
    · refine ⟨_, if_pos hz, rfl, ?_⟩
      rw [hz, List.append_nil] at h2
      exact h2
    · obtain ⟨d', hd', ho'⟩ := h2.cut (k := (batBs l).length) (by rw [List.length_append]; omega)
      rw [List.take_left' rfl] at ho'
      exact ⟨_, if_neg hz, by rw [hd'], by rw [hd']; exact ho'⟩
  rw [hR] at h3
  refine h3.mono ?_
  rintro e w' ⟨hc, S', hds, h4⟩
  rcases h4 with ⟨_, s, v, g, _, he, hsg, hn, hb, hof⟩ | ⟨hne, _⟩
  · exact ⟨⟨s, S', v, he, _, _, hsg, hR1, hof, hn, hb⟩, h1.off hc⟩
  · exact absurd hR0 hne
theorem SgI.reads {B : Nat → Prop} {w : World} {p s : Nat} {S : Nat → Prop} {v : Value} {nm : Nm} {base : Int} {l : List Bt} (h : SgI B w p s S v nm base l) (hn : nm.length ≤ 1000) (hl : (batBs l).length ≤ 1048576) :
    Calls Tryz.prog 34 #[.pointer (some ⟨s, 0, none⟩), .int .i64 base, .int .i64 1048576] w fun e w' => ∃ u, e = .returned (.tuple #[u, .nilIface]) ∧ ReadAt w.heap.size w' u l ∧ Chg Nil w w' := by
  obtain ⟨d, g, h1, h2, h3, h4, h5⟩ := h
  obtain ⟨sf, hf⟩ := h2.find
  have h6 := sread_any h1 (by rw [h4]; exact hn) l h3 sf (by rw [h4]; exact hf) base 1048576
  rw [readL_all h3.ok (h5 ▸ h3.up) (by omega) (by omega)] at h6
  exact h6
/-- The last batch that is put: it may be. -/
theorem last_err {nx : Int} (h0 : 0 ≤ nx) (h1 : nx ≤ 1099511627000) : encErr nx (nx + ([(⟨0, 0, false, ⟨#[]⟩, false, ⟨#[120]⟩⟩ : Rec)].length : Nat)) (numbered nx [⟨0, 0, false, ⟨#[]⟩, false, ⟨#[120]⟩⟩]) = 0 := by
  have hc : checkB nx (nx + 1) [⟨nx, 0, false, ⟨#[]⟩, false, ⟨#[120]⟩⟩] = 0 := by
    have h2 : ByteArray.size ⟨#[120]⟩ = 1 := rfl
    have h3 : ByteArray.size ⟨#[]⟩ = 0 := rfl
    unfold checkB
    rw [if_neg (by omega), if_neg (by omega), if_neg (by simp; omega)]
    unfold checkRecs
    rw [if_neg (by simp [badArg]; omega), if_neg (by simp [badLen]; omega), if_neg (by simp [badTime])]
    rfl
  have hf := (checkB_zero hc).2.2.2.2.2
  have hl := encRecs_length (base := nx) (en := nx + 1) (by omega) hf
  show encErr nx (nx + 1) [⟨nx, 0, false, ⟨#[]⟩, false, ⟨#[120]⟩⟩] = 0
  unfold encErr
  rw [if_neg (by rw [hc]; simp), if_neg]
  unfold encBody encHead
  have a1 : (put nx.toNat).length ≤ 6 := put_length (k := 5) (by omega)
  have a2 : (put (nx + 1 - nx).toNat).length ≤ 6 := put_length (k := 5) (by omega)
  have a3 : (put ([(⟨nx, 0, false, ⟨#[]⟩, false, ⟨#[120]⟩⟩ : Rec)].length)).length ≤ 6 := put_length (k := 5) (by simp)
  simp only [List.length_append]
  simp only [List.length_singleton] at hl a3 ⊢
  omega

theorem bytes_lt {w : World} {a : Option Addr} {l : List UInt8} (h : BytesAt w a l) (h0 : l ≠ []) {x : Addr} (hx : a = some x) : x.block < w.heap.size := by
  obtain ⟨g, off, ha, hc⟩ := h 0 (List.length_pos_iff.2 h0)
  rw [ha] at hx
  obtain rfl := Option.some.inj hx
  exact World.block_lt_of_cell? _ _ hc
theorem OwnM.at {w : World} {v : Value} {l : List Bm} (h : OwnM w v l) : ∃ a cap, v = .slice a l.length cap ∧ ∀ i (h : i < l.length), ∃ g, a = some ⟨g, 0, none⟩ ∧ ∀ j u, (l[i].c3)[j]? = some u → w.cell? ⟨g, i * 3 + j, none⟩ = some u := by
  obtain ⟨a, cap, h1, _, h2⟩ := h.val
  exact ⟨a, cap, h1, h2⟩
/-- The law's sizes lie where they are read. -/
theorem szs_at {w : World} {sa : Option Addr} {sc : Nat} {ms : List Bm} (h : OwnI w (.slice sa (ms.length + 1) sc) (szsOf ms)) : ∃ g, sa = some ⟨g, 0, none⟩ ∧ ∀ k, k ≤ ms.length → w.cell? ⟨g, k, none⟩ = some (.int .i64 ((batBs ((ms.map Bm.b).take k)).length : Nat)) := by
  obtain ⟨a, c, he, _, hc⟩ := h.val
  obtain ⟨h1, h2, h3⟩ := Value.slice.inj he
  subst h1
  have hl := szsOf_len ms
  obtain ⟨g, hg, _⟩ := hc 0 (by omega)
  refine ⟨g, hg, fun k hk => ?_⟩
  obtain ⟨g2, hg2, hc2⟩ := hc k (by omega)
  rw [hg] at hg2
  obtain rfl : g = g2 := by have := Option.some.inj hg2; exact (Addr.mk.inj this).1
  rw [szsOf_get, List.map_take] at hc2
  exact hc2

theorem lastEnd_app : ∀ (n : Int) (a b : List Bt), lastEnd n (a ++ b) = lastEnd (lastEnd n a) b
  | _, [], _ => rfl
  | _, x :: a, b => lastEnd_app x.en a b
theorem rising_app : ∀ {n : Int} {a b : List Bt}, rising n (a ++ b) → rising (lastEnd n a) b
  | _, [], _, h => h
  | _, x :: a, b, h => rising_app (n := x.en) (a := a) h.2
theorem lastEnd_take {n : Int} {l : List Bt} (hok : ∀ b ∈ l, b.Ok) (hup : rising n l) (k : Nat) : n ≤ lastEnd n (l.take k) ∧ lastEnd n (l.take k) ≤ lastEnd n l := by
  have e := List.take_append_drop k l
  have h1 : rising n (l.take k ++ l.drop k) := by rw [e]; exact hup
  refine ⟨(lastEnd_le (fun b hb => hok b (List.mem_of_mem_take hb)) (rising_take k hup)).1, ?_⟩
  have h2 := (lastEnd_le (fun b hb => hok b (List.mem_of_mem_drop hb)) (rising_app h1)).1
  rw [← lastEnd_app, e] at h2
  exact h2
theorem OwnR.at {e : TypeId} {w : World} {a : Option Addr} {c : Nat} {rs : List Rec} (h : OwnR e w (.slice a rs.length c) rs) : RecsAt w a rs := by
  obtain ⟨a', c', he, hr, _⟩ := h.recs
  obtain ⟨rfl, _, _⟩ := Value.slice.inj he
  exact hr

set_option maxHeartbeats 0 in
set_option maxRecDepth 100000 in
theorem segmentTears_in (bn : Nat) (hb : bn ≤ 1099511624776) (xa : Option Addr) (xs : List Rl) (xc : Nat) (cut : Int) (ma : Option Addr) (more : List UInt8) (mc : Nat) (w : World) (hxl : xs.length ≤ 10) (hml : more.length ≤ 3) (hok : ∀ x ∈ xs, x.Ok w) (hxa : RlsAt w xa xs) (hma : BytesAt w ma more) (hE : TabE w) :
    Calls Tryz.prog 4 #[.int .i64 (bn : Nat), .slice xa xs.length xc, .int .i64 cut, .slice ma more.length mc] w fun e w' => e = .returned (.bool true) ∧ Chg Nil w w' := by
  have h0 : ¬ (bn : Int) < 0 := by omega
  have h1 : ¬ (1099511624776 : Int) < (bn : Int) := by omega
  have h10 : ¬ (10 : Int) < (xs.length : Int) := by omega
  have h3 : ¬ (3 : Int) < (more.length : Int) := by omega
  obtain ⟨fn, hfn⟩ : ∃ fn, segName [115] bn = fn := ⟨_, rfl⟩
  have hk := (seg_ok bn (by omega) 115 (by decide)).1
  rw [hfn] at hk
  have HK := Lib.hid hk
  have HFN := Lib.hid hfn
  have hfl : fn.length ≤ 900 := by have := dkName_len hk; omega
  have HFL := Lib.hid hfl
  have HNEW := Lib.hid (new_any 1048576 (by omega) w)
  have HSEG : Hid (∀ w', Chg Nil w w' → Calls Tryz.prog 27 #[] w' fun e w'' => e = .returned (.bool true) ∧ Chg Nil w' w'') := fun w' hc => segmented_any (hE.chg hc)
  have HXA := Lib.hid hxa
  have HOK := Lib.hid hok
  have HMA := Lib.hid hma
  have HT := Lib.hid hE.tabs
  have HTB := Lib.hid hE.tabs.lt
  have HBN := Lib.hid hb
  have HXL := Lib.hid hxl
  have HML := Lib.hid hml
  clear hb hok hxa hma hE hfn hk hfl hxl hml
  go_enter Tryz.func4, Tryz.ntmps4
  go_wp2_with fail
  refine HNEW.out.mono ?_
  rintro e w1 ⟨p, mb, rfl, hp, hmb, hdm, hc1⟩
  have HDS := Lib.hid (DsS.start (by omega) hp hmb hdm hc1)
  have HC1 := Lib.hid hc1
  have HSG1 := Lib.hid (HSEG.out w1 hc1)
  clear hp hmb hdm hc1 HNEW HSEG
  go_wp2_with fail
  refine HSG1.out.mono ?_
  rintro e w2 ⟨rfl, hc2⟩
  have HDS2 := Lib.hid (HDS.out.nil hc2)
  have HC2 := Lib.hid (HC1.out.trans hc2 (fun _ h => h.elim))
  clear hc2 HSG1
  have HMK := Lib.hid (smake_any HDS2.out (HT.out.chg HC2.out) HTB.out ⟨#[115]⟩ (by decide) bn (by have := HBN.out; omega))
  obtain ⟨d1, hd1, ho1⟩ := fresh_make (r := 1048576) (nm := fn) HK.out
  have e1 : segName (ByteArray.mk #[115]).data.toList bn = fn := HFN.out
  rw [e1, hd1] at HMK
  clear e1 hd1
  go_wp2_with fail
  refine HMK.out.mono ?_
  rintro e w3 ⟨hc3, S', hds3, hcase⟩
  rcases hcase with ⟨_, s, hs, rfl, hsg⟩ | ⟨hne, _⟩
  case inr => exact absurd rfl hne
  have HSG : Hid (SgI (fun k => k < w.heap.size) w3 p s S' (.slice none 0 0) fn bn []) := ⟨d1, _, hsg, ho1, ⟨rfl, rfl, fun b hb => (by cases hb), trivial⟩, rfl, rfl⟩
  have HC3 : Hid (Chg Nil w w3) := HC2.out.trans hc3 (fun k hk => .inr hk.1)
  clear hc3 hds3 hs hsg HMK HDS HDS2 ho1
  have HAL := Lib.hid ((Chg.refl Nil w3).alloc (.cells #[.int .i64 0] 3))
  have hbx : Box (w3.alloc (.cells #[.int .i64 0] 3)) w3.heap.size [.int .i64 0] 3 := Box.new _ _ _
  go_upto_region 11 with fail
  have hz4 : (w3.alloc (.cells #[.int .i64 0] 3)).heap.size = w3.heap.size + 1 := by rw [World.size_alloc]
  generalize w3.alloc (.cells #[.int .i64 0] 3) = w4 at *
  obtain ⟨q, hq⟩ : ∃ q, w3.heap.size = q := ⟨_, rfl⟩
  rw [hq] at hbx hz4
  rw [hq]
  have HSI := Lib.hid (HSG.out.grow (HAL.out.weak fun _ h => h.elim))
  have HTK : Hid (TrK w.heap.size w4 (fun k => k < w.heap.size ∨ (w3.heap.size ≤ k ∧ k < w4.heap.size)) (.slice (some ⟨q, 0, none⟩) 1 1) (.slice none 0 0) []) := by
    have hz := HC3.out.size
    refine ⟨?_, OwnM.nil _, fun m hm => (by cases hm), fun k hk => .inl hk, fun k hk => ?_, fun k hk => (by cases hk)⟩
    · exact ⟨by simp, .inr ⟨q, 1, #[.int .i64 0], rfl, Nat.zero_le _, hbx, Nat.le_refl _, by decide, rfl, rfl⟩⟩
    · obtain rfl : q = k := Option.some.inj hk
      exact ⟨.inr (by omega), by omega⟩
  have HC4 := Lib.hid (HC3.out.trans HAL.out (fun _ h => h.elim))
  clear hbx hq hz4 h0 h1 h3 HSG
  go_wp2_with fail
  go_loopw [12, 13, 14] (fun sv av iv wr => ∃ (wq : World) (i : Nat) (B S : Nat → Prop) (v sv' av' : Value) (ms : List Bm), wq = wr ∧ i ≤ xs.length ∧ iv = .int .i64 i ∧ sv' = sv ∧ av' = av ∧ (ms.length ≤ i ∧ lastEnd bn (ms.map Bm.b) ≤ bn + 60 * i) ∧ SgI B wr p s S v fn bn (ms.map Bm.b) ∧ TrK w.heap.size wr B sv' av' ms ∧ Chg Nil w wr) (fun _ _ iv _ => xs.length - (RowKit.intOf iv).toNat)
  case atStart => exact ⟨_, 0, _, _, _, _, _, [], rfl, Nat.zero_le _, rfl, rfl, rfl, ⟨Nat.le_refl _, by show (bn : Int) ≤ bn + 60 * (0 : Nat); omega⟩, HSI.out, HTK.out, HC4.out⟩
  case round =>
    obtain ⟨wr, i, B, S, v, sv, av, ms, rfl, hi, rfl, rfl, rfl, hmi, hsi, htk, hc⟩ := hrel
    have HSI := Lib.hid hsi
    have HTK := Lib.hid htk
    have HC := Lib.hid hc
    have HMI := Lib.hid hmi
    have hsf := htk.sz.form
    rw [szsOf_len] at hsf
    generalize vA sv = sa at hsf
    generalize vC sv = sc at hsf
    subst hsf
    have haf := htk.al.form
    generalize vA av = aa at haf
    generalize vC av = ac at haf
    subst haf
    clear hsi htk hc hmi
    by_cases hil : i < xs.length
    · have hii : (i : Int) < (xs.length : Int) := by omega
      obtain ⟨b, off, rfl, hcell⟩ := HXA.out i hil
      have HXO := Lib.hid (HOK.out _ (List.getElem_mem hil))
      obtain ⟨x, hx⟩ : ∃ x, x = xs[i] := ⟨_, rfl⟩
      rw [← hx] at hcell HXO
      have HIL := Lib.hid hil
      clear hx hil
      obtain ⟨ra, rs, rc⟩ := x
      have y0 := HC.out.cell hcell (fun h => h)
      simp only at y0
      clear hcell
      by_cases h60 : (60 : Int) < (rs.length : Int)
      · go_wp2_with fail
        go_ret
        exact ⟨rfl, HC.out⟩
      have hrl : rs.length ≤ 60 := by omega
      have HRL := Lib.hid hrl
      clear hrl
      obtain ⟨nx, hnx⟩ : ∃ nx, lastEnd bn (ms.map Bm.b) = nx := ⟨_, rfl⟩
      have HNE := Lib.hid hnx
      have HNB : Hid ((bn : Int) ≤ nx ∧ nx ≤ bn + 60 * i) := by
        have h1 := HSI.out.nums
        have h2 := (lastEnd_le h1.1 h1.2).1
        rw [hnx] at h2
        have h3 := HMI.out.2
        rw [hnx] at h3
        exact ⟨h2, h3⟩
      have HNX : Hid (∀ w', Chg Nil wr w' → Calls Tryz.prog 18 #[.pointer (some ⟨s, 0, none⟩)] w' fun e w'' => e = .returned (.int .i64 nx) ∧ Chg Nil w' w'') := fun w' hw => by
        rw [← hnx]
        exact (HSI.out.nil hw).next (by rw [List.length_map]; have := HMI.out.1; have := HXL.out; omega)
      have HBA : Hid (∀ w', Chg Nil wr w' → Calls Tryz.prog 28 #[.int .i64 nx, .slice ra rs.length rc] w' fun e w'' => ∃ v, e = .returned v ∧ BatP wr.heap.size nx rs v w'' ∧ Chg Nil w' w'') := fun w' hw => by
        refine (batch_new nx ra rs rc w' ⟨by have := HNB.out.1; omega, by have := HNB.out.2; have := HBN.out; have := HXL.out; omega⟩ (by have := HRL.out; omega) (RecsAt.chg (HC.out.trans hw (fun _ h => h.elim)) HXO.out.recs (fun _ _ h => h))).mono ?_
        rintro e w'' ⟨h1, u, rfl, h2, h3⟩
        refine ⟨_, rfl, ⟨?_, h2, fun k hk => Nat.le_trans hw.size (h3 k hk)⟩, h1⟩
        have h4 := h2.form
        show Value.agg #[_, _, u] = .agg #[_, _, .slice (vA u) _ (vC u)]
        rw [← h4]
      clear hnx
      go_upto_region 16 with fail
      refine Ch.wp_region_last _ _ rfl (Chg (Nil)) [] (fun _ _ => True) (by as_aux_lemma => kernel_rfl) (fun _ => Chg.refl _ _) (fun _ _ _ h k => h.trans k (fun _ h => .inl h)) [[], [0], [], [], [2, 3], [4], [1, 5], []] rfl (by as_aux_lemma => kernel_rfl) (by as_aux_lemma => kernel_rfl) (by as_aux_lemma => kernel_rfl) (Chg.refl _ _).drew ?_ ?_
      · trivial
      simp only [List.dropLast_cons_cons, List.dropLast_singleton]
      ((with_reducible apply Ch.Walk.eq); (case hd => rfl); (case hi => rfl); case h => (intro w2 hw2 N hN; simp only [Ch.depsOf, List.filterMap_nil, List.filterMap_cons, List.getElem?_toArray, List.getElem?_cons_zero, List.getElem?_cons_succ, Option.bind_some, List.nil_append, List.cons_append, Ch.Ob]; go_simp; (try go_bits); with_reducible exact hN _ (Chg.refl _ _) (fun _ h => h)))
      (with_reducible apply Ch.Walk.eq); (case hd => rfl); (case hi => rfl); case h =>
        intro w2 hw2 N hN
        simp only [Ch.depsOf, List.filterMap_nil, List.filterMap_cons, List.getElem?_toArray, List.getElem?_cons_zero, List.getElem?_cons_succ, Option.bind_some, List.nil_append, List.cons_append, Ch.Ob, Ch.chained_get, Option.map_some, List.idxOf?, List.findIdx?, List.findIdx?.go, Nat.reduceBEq, List.getD_cons_zero, List.getD_cons_succ, Nat.reduceAdd, if_true, if_false, Bool.false_eq_true]
        go_simp
        refine (HNX.out w2 hw2).mono ?_
        rintro e w5 ⟨rfl, hc5⟩
        exact ⟨_, rfl, hN _ hc5 (fun _ h => h)⟩
      iterate 3 ((with_reducible apply Ch.Walk.eq); (case hd => rfl); (case hi => rfl); case h => (intro w2 hw2 N hN; simp only [Ch.depsOf, List.filterMap_nil, List.filterMap_cons, List.getElem?_toArray, List.getElem?_cons_zero, List.getElem?_cons_succ, Option.bind_some, List.nil_append, List.cons_append, Ch.Ob]; go_simp; (try go_bits); with_reducible exact hN _ (Chg.refl _ _) (fun _ h => h)))
      ((with_reducible apply Ch.Walk.eq); (case hd => rfl); (case hi => rfl); case h => (intro w2 hw2 N hN; (have hq := hw2.cell y0 (fun h => h)); simp only [Ch.depsOf, List.filterMap_nil, List.filterMap_cons, List.getElem?_toArray, List.getElem?_cons_zero, List.getElem?_cons_succ, Option.bind_some, List.nil_append, List.cons_append, Ch.Ob]; go_simp; (try go_bits); with_reducible exact hN _ (Chg.refl _ _) (fun _ h => h)))
      simp only [List.nil_append, List.cons_append]
      refine Ch.Walk.sat (BatP wr.heap.size nx rs) (fun _ _ _ h k => h.nil k) rfl rfl ?_ ?_
      · intro w2 hw2 N hN
        simp only [Ch.depsOf, List.filterMap_nil, List.filterMap_cons, List.getElem?_toArray, List.getElem?_cons_zero, List.getElem?_cons_succ, Option.bind_some, List.nil_append, List.cons_append, Ch.Ob, Ch.chained_get, Option.map_some, List.idxOf?, List.findIdx?, List.findIdx?.go, Nat.reduceBEq, List.getD_cons_zero, List.getD_cons_succ, Nat.reduceAdd, if_true, if_false, Bool.false_eq_true]
        go_simp
        refine (HBA.out w2 hw2).mono ?_
        rintro e w5 ⟨v5, rfl, hb5, hc5⟩
        exact ⟨_, rfl, hN _ _ hb5 hc5 (fun _ h => h)⟩
      simp only [List.nil_append, List.cons_append]
      refine Ch.Walk.sat (NewP wr.heap.size [.int .i64 0, .int .i64 0, .slice none 0 0] 41) (fun _ _ _ h k => h.nil k) rfl rfl ?_ ?_
      · intro w2 hw2 N hN
        simp only [Ch.depsOf, List.filterMap_nil, List.filterMap_cons, List.getElem?_toArray, List.getElem?_cons_zero, List.getElem?_cons_succ, Option.bind_some, List.nil_append, List.cons_append, Ch.Ob, Ch.chained_get, Option.map_some, List.idxOf?, List.findIdx?, List.findIdx?.go, Nat.reduceBEq, List.getD_cons_zero, List.getD_cons_succ, Nat.reduceAdd, if_true, if_false, Bool.false_eq_true]
        go_simp
        exact hN _ _ ⟨rfl, hw2.size, Box.new w2 [.int .i64 0, .int .i64 0, .slice none 0 0] _⟩ ((Chg.refl Nil w2).alloc _) (fun _ h => h)
      intro w10 hw10
      simp only [List.nil_append, List.cons_append, Ch.Fin, List.map_cons, List.map_nil, List.getD_cons_zero, List.getD_cons_succ]
      intro v6 h6 v7 h7 _
      have e6 := h6.1
      have O6 := Lib.hid h6.2
      have e7 := h7.1
      have O7 := Lib.hid h7.2
      have HW10 := Lib.hid hw10
      clear h6 h7 hw10 y0
      generalize vU v6 = u at e6 O6
      subst e6
      generalize vP v7 = q7 at e7 O7
      subst e7
      simp only [Ch.Then, Oper.wp]
      go_simp
      have b0 := O7.out.2.cell (j := 0) rfl
      have b1 := O7.out.2.cell (j := 1) rfl
      have b2 := O7.out.2.cell (j := 2) rfl
      have f0 := O7.out.2.free 0
      have f1 := O7.out.2.free 1
      have f2 := O7.out.2.free 2
      go_upto_region 17 with fail
      have hst : Chg (fun k => k = q7) w10 (((w10.setCell ⟨q7, 0, none⟩ (.int .i64 nx)).setCell ⟨q7, 1, none⟩ (.int .i64 (nx + rs.length))).setCell ⟨q7, 2, none⟩ (.slice (vA u) (numbered nx rs).length (vC u))) := (((Chg.refl (fun k => k = q7) _).setCell (.inl rfl) _).setCell (.inl rfl) _).setCell (.inl rfl) _
      have hbx : Box (((w10.setCell ⟨q7, 0, none⟩ (.int .i64 nx)).setCell ⟨q7, 1, none⟩ (.int .i64 (nx + rs.length))).setCell ⟨q7, 2, none⟩ (.slice (vA u) (numbered nx rs).length (vC u))) q7 [.int .i64 nx, .int .i64 (nx + rs.length), .slice (vA u) (numbered nx rs).length (vC u)] 41 := ((O7.out.2.set 0 _).set 1 _).set 2 _
      clear b0 b1 b2 f0 f1 f2
      generalize (((w10.setCell ⟨q7, 0, none⟩ (.int .i64 nx)).setCell ⟨q7, 1, none⟩ (.int .i64 (nx + rs.length))).setCell ⟨q7, 2, none⟩ (.slice (vA u) (numbered nx rs).length (vC u))) = w11 at *
      have HC11 : Hid (Chg Nil wr w11) := HW10.out.trans hst (fun k hk => .inr (by rw [hk]; exact O7.out.1))
      have HU : Hid (OwnR 55 w11 u (numbered nx rs)) := O6.out.1.chg hst (fun k hk e => box_row_ne O7.out.2 O6.out.1 (by decide) (e ▸ hk))
      have HBX := Lib.hid hbx
      obtain ⟨B2, hB2⟩ : ∃ B2 : Nat → Prop, B2 = fun k => B k ∨ (wr.heap.size ≤ k ∧ k < w11.heap.size) := ⟨_, rfl⟩
      have HK11 : Hid (TrK w.heap.size w11 B2 (Value.slice sa (ms.length + 1) sc) (Value.slice aa ms.length ac) ms) := by rw [hB2]; exact HTK.out.grow HC11.out
      have HUB : Hid (∀ k, u.ownBlock = some k → B2 k) := fun k hk => by rw [hB2]; exact .inr ⟨O6.out.2 k hk, ownsRow_lt HU.out k hk⟩
      have HQB : Hid (B2 q7) := by unfold Hid; rw [hB2]; exact .inr ⟨O7.out.1, (Array.getElem?_eq_some_iff.1 hbx).1⟩
      have HAD : Hid (Calls Tryz.prog 12 #[.pointer (some ⟨s, 0, none⟩), .agg #[.int .i64 nx, .int .i64 (nx + rs.length), .slice (vA u) (numbered nx rs).length (vC u)]] w11 fun e w' =>
          (((∃ ek : Nat, e = .returned (.iface 32 (.int .i64 (ek : Nat)))) ∧ ∃ S' v', SgI B2 w' p s S' v' fn bn (ms.map Bm.b)) ∨ (e = .returned .nilIface ∧ ∃ S' v', SgI B2 w' p s S' v' fn bn (ms.map Bm.b ++ [⟨nx, nx + rs.length, numbered nx rs⟩]))) ∧ Chg (Off B2) w11 w') := by
        have hsg : SgI B2 w11 p s S v fn bn (ms.map Bm.b) := by rw [hB2]; exact HSI.out.grow (HC11.out.weak fun _ h => h.elim)
        have h1 := hsg.add (by have := HFL.out; omega) (by rw [List.length_map]; have := HMI.out.1; have := HXL.out; omega) (by omega) (by rw [HNE.out]; have := HNB.out.2; have := HBN.out; have := HXL.out; omega) u rs (by rw [HNE.out]; exact HU.out) HUB.out (by have := HRL.out; omega) HXO.out.rok
        rw [HNE.out] at h1
        refine h1.mono ?_
        rintro e w' ⟨he, h2, h3, h4⟩
        by_cases hk : encErr nx (nx + rs.length) (numbered nx rs) = 0
        · rw [hk] at he
          exact ⟨.inr ⟨he, h3 hk⟩, h4⟩
        · rw [errD_ne hk] at he
          exact ⟨.inl ⟨⟨_, he⟩, h2 hk⟩, h4⟩
      clear hst hbx
      have x0 := HBX.out.cell (j := 0) rfl
      have x1 := HBX.out.cell (j := 1) rfl
      have x2 := HBX.out.cell (j := 2) rfl
      go_wp2_with fail
      refine HAD.out.mono ?_
      rintro e w12 ⟨hcase, hc12⟩
      have HK12 := Lib.hid (HK11.out.off hc12)
      have HU12 := Lib.hid (HU.out.chg hc12 (fun k hk hn => hn (HUB.out k hk)))
      have HBX12 := Lib.hid (HBX.out.chg hc12 (fun hn => hn HQB.out))
      have HC12 : Hid (Chg Nil w w12) := (HC.out.trans HC11.out (fun _ h => h.elim)).trans hc12 (fun k hk => .inr (Nat.le_of_not_lt fun hl => hk (HK11.out.b0 k hl)))
      clear hc12 x0 x1 x2 HAD
      rcases hcase with ⟨⟨ek, rfl⟩, hsg⟩ | ⟨rfl, hsg⟩
      · have HSG := Lib.hid hsg
        clear hsg
        go_wp2_with fail
        go_roundw
        case rel =>
          obtain ⟨S2, v2, h2⟩ := HSG.out
          exact ⟨_, i + 1, B2, S2, v2, _, _, ms, rfl, HIL.out, by go_num, rfl, rfl, ⟨by have := HMI.out.1; omega, by have := HMI.out.2; omega⟩, h2, HK12.out, HC12.out⟩
        case measure => exact meas_two HIL.out
      obtain ⟨m, hm⟩ : ∃ m : Bm, m = ⟨⟨nx, nx + rs.length, numbered nx rs⟩, vA u, vC u⟩ := ⟨_, rfl⟩
      have HMM := Lib.hid hm
      have HSG : Hid (∃ S' v', SgI B2 w12 p s S' v' fn bn ((ms ++ [m]).map Bm.b)) := by unfold Hid; rw [List.map_append, List.map_singleton, hm]; exact hsg
      obtain ⟨sz, hsz⟩ : ∃ sz, (batBs ((ms ++ [m]).map Bm.b)).length = sz := ⟨_, rfl⟩
      have HSZE := Lib.hid hsz
      have HKE := Lib.hid (HK12.out.keeps)
      have HSZ : Hid (∀ w', Chg (fun k => (Value.slice sa (ms.length + 1) sc).ownBlock = some k ∨ (Value.slice aa ms.length ac).ownBlock = some k) w12 w' → Calls Tryz.prog 19 #[.pointer (some ⟨s, 0, none⟩)] w' fun e w'' => e = .returned (.int .i64 (sz : Nat)) ∧ Chg Nil w' w'') := fun w' hw => by
        obtain ⟨S2, v2, h2⟩ := HSG.out
        have h3 := (h2.kept (hw.weak fun k hk => .inl (HKE.out k hk).1)).size
        rw [hsz] at h3
        exact h3
      have HSL : Hid (∀ k, ((Value.slice sa (ms.length + 1) sc).ownBlock = some k ∨ (Value.slice aa ms.length ac).ownBlock = some k) → k < w12.heap.size) := fun k hk => (HKE.out k hk).2.2
      have HN7 : Hid (¬ ((Value.slice sa (ms.length + 1) sc).ownBlock = some q7 ∨ (Value.slice aa ms.length ac).ownBlock = some q7)) := by
        have h7 := HTK.out.keeps
        intro hk
        have h8 := (h7 q7 hk).2.2
        have h9 := O7.out.1
        omega
      have HLN : Hid (ms.length ≤ 10) := by have h1 := HMI.out.1; have h2 := HXL.out; unfold Hid; omega
      have x0 := HBX12.out.cell (j := 0) rfl
      have x1 := HBX12.out.cell (j := 1) rfl
      have x2 := HBX12.out.cell (j := 2) rfl
      clear hsg hm hsz
      go_upto_region 18 with fail
      refine Ch.wp_region_chain _ (Chg (fun k => (Value.slice sa (ms.length + 1) sc).ownBlock = some k ∨ (Value.slice aa ms.length ac).ownBlock = some k)) [4, 8] (TaF w12.heap.size (Value.slice sa (ms.length + 1) sc) (Value.slice aa ms.length ac) ms m) (by as_aux_lemma => kernel_rfl) (fun _ => Chg.refl _ _) (fun _ _ _ h k => h.trans k (fun _ h => .inl h)) [[], [], [1], [2], [0, 3], [], [], [6], [5, 7], [4], [8]] rfl (by as_aux_lemma => kernel_rfl) (by as_aux_lemma => kernel_rfl) (Chg.refl _ _).drew ?_ ?_
      · exact TaF.nil (Chg.refl Nil _).drew [] ⟨HK12.out.sz, HK12.out.al⟩
      iterate 2 ((with_reducible apply Ch.Walk.eq); (case hd => rfl); (case hi => rfl); case h => (intro w2 hw2 N hN; simp only [Ch.depsOf, List.filterMap_nil, List.filterMap_cons, List.getElem?_toArray, List.getElem?_cons_zero, List.getElem?_cons_succ, Option.bind_some, List.nil_append, List.cons_append, Ch.Ob]; go_simp; (try go_bits); with_reducible exact hN _ (Chg.refl _ _) (fun _ h => h)))
      (with_reducible apply Ch.Walk.eq); (case hd => rfl); (case hi => rfl); case h =>
        intro w2 hw2 N hN
        simp only [Ch.depsOf, List.filterMap_nil, List.filterMap_cons, List.getElem?_toArray, List.getElem?_cons_zero, List.getElem?_cons_succ, Option.bind_some, List.nil_append, List.cons_append, Ch.Ob, Ch.chained_get, Option.map_some, List.idxOf?, List.findIdx?, List.findIdx?.go, Nat.reduceBEq, List.getD_cons_zero, List.getD_cons_succ, Nat.reduceAdd, if_true, if_false, Bool.false_eq_true]
        go_simp
        refine (HSZ.out w2 hw2).mono ?_
        rintro e w5 ⟨rfl, hc5⟩
        exact ⟨_, rfl, hN _ (hc5.weak (fun _ h => h.elim)) (fun vs hF => TaF.nil hc5 vs hF)⟩
      simp only [List.nil_append, List.cons_append]
      refine Ch.Walk.sat (NewS w12.heap.size 1 [.int .i64 (sz : Nat)] 3) (fun _ _ _ h k => h.keep HSL.out k) rfl rfl ?_ ?_
      · intro w2 hw2 N hN
        simp only [Ch.depsOf, List.filterMap_nil, List.filterMap_cons, List.getElem?_toArray, List.getElem?_cons_zero, List.getElem?_cons_succ, Option.bind_some, List.nil_append, List.cons_append, Ch.Ob, Ch.chained_get, Option.map_some, List.idxOf?, List.findIdx?, List.findIdx?.go, Nat.reduceBEq, List.getD_cons_zero, List.getD_cons_succ, Nat.reduceAdd, if_true, if_false, Bool.false_eq_true]
        go_simp
        have hal := (Chg.refl Nil w2).alloc (.cells #[.int .i64 (sz : Nat)] 3)
        exact hN _ _ ⟨w2.heap.size, rfl, hw2.size, Box.new w2 [.int .i64 (sz : Nat)] _⟩ (hal.weak (fun _ h => h.elim)) (fun vs hF => TaF.nil hal vs hF)
      simp only [List.nil_append, List.cons_append]
      refine Ch.Walk.chain 0 rfl rfl ?_ ?_
      · intro w2 hw2 vs hvs hF N hN
        obtain rfl := List.eq_nil_of_length_eq_zero hvs
        have hF1 : OwnI w2 (Value.slice sa (ms.length + 1) sc) (szsOf ms) := hF.1
        have hF2 : OwnM w2 (Value.slice aa ms.length ac) ms := hF.2
        clear hF
        simp only [Ch.depsOf, List.filterMap_nil, List.filterMap_cons, List.getElem?_toArray, List.getElem?_cons_zero, List.getElem?_cons_succ, Option.bind_some, List.nil_append, List.cons_append, Ch.Ob, Ch.chained_get, Option.map_some, List.idxOf?, List.findIdx?, List.findIdx?.go, Nat.reduceBEq, List.getD_cons_zero, List.getD_cons_succ, Nat.reduceAdd, if_true, if_false, Bool.false_eq_true]
        rintro v ⟨q8, rfl, hq8, hb8⟩
        have hz3 : w12.heap.size ≤ w2.heap.size := hw2.size
        have hsl := szsOf_len ms
        have hF3 := hF1
        unfold OwnI at hF3
        rw [hsl] at hF3
        refine Ch.if_append_row rfl (.tmp 86) (.tmp 89) 63 63 rfl intT _ Tryz.underlying63 (by intro _; simp) (Value.slice sa (ms.length + 1) sc) (ms.length + 1) ((szsOf ms).map fun n => Value.int .i64 (n : Nat)) rfl hF3 (.slice (some ⟨q8, 0, none⟩) 1 1) 1 [.int .i64 (sz : Nat)] rfl (Source.box hb8 rfl (by intro u hu; rw [List.mem_singleton.1 hu]; rfl)) (by have := HLN.out; unfold maxLen; omega) (by have := HLN.out; omega) (fun v' w' h1 h2 => hN _ _ (h2.chg.weak (fun k hk => .inl (.inl hk))) ?_)
        refine ⟨⟨?_, fun k hk => (h2.own k hk).imp id fun h => Nat.le_trans hz3 h⟩, ownsRow_chg hF2 h2.chg (fun k hk e => rows_ne hF1 hF2 (by decide) k e hk)⟩
        unfold OwnI
        rw [szsOf_snoc, List.length_append, List.length_singleton, List.map_append, List.map_singleton, HSZE.out, hsl]
        exact h1
      ((with_reducible apply Ch.Walk.eq); (case hd => rfl); (case hi => rfl); case h => (intro w2 hw2 N hN; simp only [Ch.depsOf, List.filterMap_nil, List.filterMap_cons, List.getElem?_toArray, List.getElem?_cons_zero, List.getElem?_cons_succ, Option.bind_some, List.nil_append, List.cons_append, Ch.Ob]; go_simp; (try go_bits); with_reducible exact hN _ (Chg.refl _ _) (fun _ h => h)))
      ((with_reducible apply Ch.Walk.eq); (case hd => rfl); (case hi => rfl); case h => (intro w2 hw2 N hN; (have hx0 := hw2.cell x0 HN7.out; have hx1 := hw2.cell x1 HN7.out; have hx2 := hw2.cell x2 HN7.out); simp only [Ch.depsOf, List.filterMap_nil, List.filterMap_cons, List.getElem?_toArray, List.getElem?_cons_zero, List.getElem?_cons_succ, Option.bind_some, List.nil_append, List.cons_append, Ch.Ob]; go_simp; (try go_bits); with_reducible exact hN _ (Chg.refl _ _) (fun _ h => h)))
      simp only [List.nil_append, List.cons_append]
      refine Ch.Walk.sat (NewS w12.heap.size 1 [.int .i64 nx, .int .i64 (nx + rs.length), .slice (vA u) (numbered nx rs).length (vC u)] 41) (fun _ _ _ h k => h.keep HSL.out k) rfl rfl ?_ ?_
      · intro w2 hw2 N hN
        simp only [Ch.depsOf, List.filterMap_nil, List.filterMap_cons, List.getElem?_toArray, List.getElem?_cons_zero, List.getElem?_cons_succ, Option.bind_some, List.nil_append, List.cons_append, Ch.Ob, Ch.chained_get, Option.map_some, List.idxOf?, List.findIdx?, List.findIdx?.go, Nat.reduceBEq, List.getD_cons_zero, List.getD_cons_succ, Nat.reduceAdd, if_true, if_false, Bool.false_eq_true]
        go_simp
        have hal := (Chg.refl Nil w2).alloc (.cells #[.int .i64 nx, .int .i64 (nx + rs.length), .slice (vA u) (numbered nx rs).length (vC u)] 41)
        exact hN _ _ ⟨w2.heap.size, rfl, hw2.size, Box.new w2 [.int .i64 nx, .int .i64 (nx + rs.length), .slice (vA u) (numbered nx rs).length (vC u)] _⟩ (hal.weak (fun _ h => h.elim)) (fun vs hF => TaF.nil hal vs hF)
      simp only [List.nil_append, List.cons_append]
      refine Ch.Walk.chainV rfl rfl ?_ ?_
      · intro w2 hw2 x hF N hN
        have hF1 : OwnI w2 x (szsOf (ms ++ [m])) := hF.1.1
        have hF2 : OwnM w2 (Value.slice aa ms.length ac) ms := hF.2
        have hF3 := hF.1.2
        clear hF
        simp only [Ch.depsOf, List.filterMap_nil, List.filterMap_cons, List.getElem?_toArray, List.getElem?_cons_zero, List.getElem?_cons_succ, Option.bind_some, List.nil_append, List.cons_append, Ch.Ob, Ch.chained_get, Option.map_some, List.idxOf?, List.findIdx?, List.findIdx?.go, Nat.reduceBEq, List.getD_cons_zero, List.getD_cons_succ, Nat.reduceAdd, if_true, if_false, Bool.false_eq_true]
        rintro v ⟨q9, rfl, hq9, hb9⟩
        have hz3 : w12.heap.size ≤ w2.heap.size := hw2.size
        refine Ch.if_append_row rfl (.tmp 91) (.tmp 93) 64 64 rfl batT _ Tryz.underlying64 (by intro _; simp) (Value.slice aa ms.length ac) ms.length (ms.flatMap Bm.c3) rfl hF2 (.slice (some ⟨q9, 0, none⟩) 1 1) 1 [.int .i64 nx, .int .i64 (nx + rs.length), .slice (vA u) (numbered nx rs).length (vC u)] rfl (Source.box hb9 rfl (c3_one _ _ _ _ _)) (by have := HLN.out; unfold maxLen; omega) (by have := HLN.out; omega) (fun v' w' h1 h2 => hN _ _ (h2.chg.weak (fun k hk => .inl (.inr hk))) ?_)
        refine ⟨⟨ownsRow_chg hF1 h2.chg (fun k hk e => rows_ne hF1 hF2 (by decide) k hk e), hF3⟩, ⟨?_, fun k hk => (h2.own k hk).imp id fun h => Nat.le_trans hz3 h⟩⟩
        unfold OwnM
        rw [List.length_append, List.length_singleton, List.flatMap_append, List.flatMap_cons, List.flatMap_nil, List.append_nil, HMM.out]
        exact h1
      simp only [List.nil_append, List.cons_append]
      refine Ch.Walk.copy 4 rfl rfl rfl ⟨rfl, 90, .inr rfl, rfl⟩ ?_
      simp only [List.nil_append, List.cons_append]
      refine Ch.Walk.copy 8 rfl rfl rfl ⟨rfl, 94, .inr rfl, rfl⟩ ?_
      intro w13 hw13
      simp only [List.nil_append, List.cons_append, Ch.Fin, List.map_cons, List.map_nil, List.getD_cons_zero, List.getD_cons_succ]
      intro v3 _ v4 _ v7 _ v8 _ hF
      have HF : Hid (TaF w12.heap.size (Value.slice sa (ms.length + 1) sc) (Value.slice aa ms.length ac) ms m [v4, v8] w13) := hF
      have HW13 : Hid (Chg (fun k => (Value.slice sa (ms.length + 1) sc).ownBlock = some k ∨ (Value.slice aa ms.length ac).ownBlock = some k) w12 w13) := hw13
      clear hF hw13 x0 x1 x2
      go_simp
      go_wp2_with fail
      go_roundw
      case rel =>
        obtain ⟨S2, v2, h2⟩ := HSG.out
        have hmu : Value.slice m.ra m.b.rs.length m.rc = u := by rw [HMM.out]; exact HU12.out.form.symm
        have hmr : m.b.rs = numbered nx rs := by rw [HMM.out]
        have h3 := HK12.out.more HC12.out.size (by rw [hmu, hmr]; exact HU12.out) (by rw [hmu]; exact HUB.out) HW13.out HF.out
        refine ⟨_, i + 1, _, S2, v2, _, _, ms ++ [m], rfl, HIL.out, by go_num, rfl, rfl, ⟨?_, ?_⟩, h2.grow (HW13.out.weak fun k hk => .inl (HKE.out k hk).1), h3, HC12.out.trans HW13.out (fun k hk => .inr (HKE.out k hk).2.1)⟩
        · rw [List.length_append, List.length_singleton]; have := HMI.out.1; omega
        · rw [List.map_append, List.map_singleton, lastEnd_snoc, HMM.out]
          have h4 := HNB.out.2
          have h5 := HRL.out
          show nx + (rs.length : Int) ≤ _
          omega
      case measure => exact meas_two HIL.out
    · have hii : ¬ (i : Int) < (xs.length : Int) := by omega
      obtain ⟨L, hL⟩ : ∃ L, ms.map Bm.b = L := ⟨_, rfl⟩
      rw [hL] at HSI
      have hLl : L.length = ms.length := by rw [← hL, List.length_map]
      have HLL := Lib.hid hLl
      have HLE := Lib.hid hL
      have hok2 := HSI.out.nums
      have HNU := Lib.hid hok2
      have hle : lastEnd bn L ≤ bn + 600 := by
        have h1 := HMI.out.2
        have h2 := HXL.out
        rw [hL] at h1
        omega
      have HLST := Lib.hid hle
      obtain ⟨W, hW⟩ : ∃ W, batBs L = W := ⟨_, rfl⟩
      have hWl : W.length ≤ 60000 := by
        rw [← hW]
        have h0 := batBs_lim hok2.1
        rw [hLl] at h0
        have h1 := HMI.out.1
        have h2 := HXL.out
        omega
      have HWL := Lib.hid hWl
      have HWE := Lib.hid hW
      have HMSL : Hid (ms.length ≤ 10) := by have h1 := HMI.out.1; have h2 := HXL.out; unfold Hid; omega
      have HNM : Hid (Calls Tryz.prog 29 #[.string ⟨#[115]⟩, .int .i64 (bn : Nat)] wr fun e w' => e = .returned (.string ⟨fn.toArray⟩) ∧ Chg Nil wr w') := by
        have h1 := name_any (HT.out.chg HC.out) ⟨#[115]⟩ bn (by decide) (by have := HBN.out; omega)
        have e1 : segName (ByteArray.mk #[115]).data.toList bn = fn := HFN.out
        rw [e1] at h1
        exact h1
      clear hok2 hW hWl hL hLl hle hi hil
      go_wp2_with fail
      refine HNM.out.mono ?_
      rintro e w5 ⟨rfl, hc5⟩
      have HC5 := Lib.hid (HC.out.trans hc5 (fun _ h => h.elim))
      have HSI5 := Lib.hid (HSI.out.nil hc5)
      have HTK5 := Lib.hid (HTK.out.nil hc5)
      have HRD : Hid (Calls Tryz.prog 30 #[.pointer (some ⟨p, 0, none⟩), .string ⟨fn.toArray⟩, .int .i64 0, .int .i64 1048576] w5 fun e w' => ∃ a c, e = .returned (.slice a W.length c) ∧ BytesAt w' a W ∧ Chg Nil w5 w') := by
        have h1 := HSI5.out.dk.read (by have := HFL.out; omega) (by rw [HWE.out]; have := HWL.out; omega)
        rw [HWE.out] at h1
        exact h1
      clear hc5 HNM
      go_wp2_with fail
      refine HRD.out.mono ?_
      rintro e w6 ⟨wa, wcap, rfl, hb6, hc6⟩
      have hcv := conv_bytes (dst := 9) Tryz.underlying44 Tryz.underlying5 Tryz.underlying9 hb6 wcap
      have HC6 := Lib.hid (HC5.out.trans hc6 (fun _ h => h.elim))
      have HSI6 := Lib.hid (HSI5.out.nil hc6)
      have HTK6 := Lib.hid (HTK5.out.nil hc6)
      have HSZ : Hid (Calls Tryz.prog 19 #[.pointer (some ⟨s, 0, none⟩)] w6 fun e w' => e = .returned (.int .i64 (W.length : Nat)) ∧ Chg Nil w6 w') := by
        have h1 := HSI6.out.size
        rw [HWE.out] at h1
        exact h1
      clear hb6 hc6 HRD
      go_wp2_with fail
      refine HSZ.out.mono ?_
      rintro e w7 ⟨rfl, hc7⟩
      clear hcv
      have HC7 := Lib.hid (HC6.out.trans hc7 (fun _ h => h.elim))
      have HSI7 := Lib.hid (HSI6.out.nil hc7)
      have HTK7 := Lib.hid (HTK6.out.nil hc7)
      have hw1 : wrap64 ((W.length : Int) + 1) = (W.length : Int) + 1 := by have := HWL.out; unfold wrap64; omega
      obtain ⟨c, hc⟩ : ∃ c, pickN cut (W.length + 1) = c := ⟨_, rfl⟩
      have hcl : c ≤ W.length := by have := pickN_lt (a := cut) (n := W.length + 1) (by omega); omega
      have HPK : Hid (Calls Tryz.prog 31 #[.int .i64 cut, .int .i64 ((W.length : Int) + 1)] w7 fun e w' => e = .returned (.int .i64 (c : Nat)) ∧ w7 = w') := by
        have h1 := pick_any cut (W.length + 1) w7 (by omega) (by have := HWL.out; omega)
        rw [hc] at h1
        rw [show ((W.length + 1 : Nat) : Int) = (W.length : Int) + 1 from by omega] at h1
        exact h1
      have HCL := Lib.hid hcl
      clear hc7 hc hcl HSZ
      go_wp2_with fail
      refine HPK.out.mono ?_
      rintro e w8 ⟨rfl, rfl⟩
      clear hw1
      obtain ⟨Wc, hWc⟩ : ∃ Wc, W.take c = Wc := ⟨_, rfl⟩
      have hex := cut_take W HCL.out
      rw [hWc] at hex
      have HWC := Lib.hid hWc
      have hn1 : ¬ W.length < c := Nat.not_lt.2 HCL.out
      have hn2 : ¬ (W.length : Int) < (c : Int) := by omega
      have hno : ¬ 9223372036854775807 < Wc.length + more.length := by
        have h1 := HML.out
        have h2 : Wc.length ≤ W.length := by rw [← hWc, List.length_take]; omega
        have h3 := HWL.out
        omega
      have HB7 : Hid (BytesAt w7 ma more) := HC7.out.bytesAt HMA.out (fun _ _ h => h)
      clear hWc
      go_upto_region 22 with fail
      refine wp_region_mono _ (Chg Nil) (by as_aux_lemma => kernel_rfl) (fun _ _ _ h k => h.trans k (fun _ h => h.elim)) [[], [], [0, 1], [], [3], [2, 4], [5]] rfl (by as_aux_lemma => kernel_rfl) (Chg.refl _ _).drew ?_
      iterate 4 ((with_reducible apply Walk.eq); case h => (intro w2 hw2 N hN; simp only [depsOf, List.filterMap_nil, List.filterMap_cons, List.getElem?_toArray, List.getElem?_cons_zero, List.getElem?_cons_succ, Option.bind_some, List.nil_append, List.cons_append, Ob]; go_simp; (try go_bits); with_reducible exact hN _ (Chg.refl _ _)))
      ((with_reducible apply Walk.eq); case h => (intro w2 hw2 N hN; have hq := conv_bytes (dst := 9) Tryz.underlying44 Tryz.underlying5 Tryz.underlying9 (hw2.bytesAt HB7.out (fun _ _ h => h)) mc; simp only [depsOf, List.filterMap_nil, List.filterMap_cons, List.getElem?_toArray, List.getElem?_cons_zero, List.getElem?_cons_succ, Option.bind_some, List.nil_append, List.cons_append, Ob]; go_simp; with_reducible exact hN _ (Chg.refl _ _)))
      iterate 2 ((with_reducible apply Walk.eq); case h => (intro w2 hw2 N hN; simp only [depsOf, List.filterMap_nil, List.filterMap_cons, List.getElem?_toArray, List.getElem?_cons_zero, List.getElem?_cons_succ, Option.bind_some, List.nil_append, List.cons_append, Ob]; go_simp; (try go_bits); with_reducible exact hN _ (Chg.refl _ _)))
      intro w8 hw8
      simp only [List.nil_append, List.cons_append, Fin]
      rw [cat_strs]
      obtain ⟨F, hF⟩ : ∃ F, Wc ++ more = F := ⟨_, rfl⟩
      rw [hF]
      have HF := Lib.hid hF
      have HC8 := Lib.hid (HC7.out.trans hw8 (fun _ h => h.elim))
      have HTK8 := Lib.hid (HTK7.out.nil hw8)
      have HDK8 : Hid (DkI B w8 p fn W) := by
        have h1 := (HSI7.out.nil hw8).dk
        rw [HWE.out] at h1
        exact h1
      have HCU : Hid (Calls Tryz.prog 32 #[.pointer (some ⟨p, 0, none⟩), .string ⟨fn.toArray⟩, .int .i64 (c : Nat)] w8 fun e w' => e = .returned .nilIface ∧ DkI B w' p fn Wc ∧ Chg (Off B) w8 w') := by
        have h1 := HDK8.out.cut (by have := HFL.out; omega) HCL.out
        rw [HWC.out] at h1
        exact h1
      clear hex hn1 hn2 hno hw8 hF
      go_simp
      go_wp2_with fail
      refine HCU.out.mono ?_
      rintro e w9 ⟨rfl, hdk9, hc9⟩
      have HC9 : Hid (Chg Nil w w9) := HC8.out.trans hc9 (fun k hk => .inr (Nat.le_of_not_lt fun hl => hk (HTK8.out.b0 k hl)))
      have HTK9 := Lib.hid (HTK8.out.off hc9)
      have HADD : Hid (Calls Tryz.prog 33 #[.pointer (some ⟨p, 0, none⟩), .string ⟨fn.toArray⟩, .slice ma more.length mc] w9 fun e w' => e = .returned .nilIface ∧ DkI B w' p fn F ∧ Chg (Off B) w9 w') := by
        have h1 := hdk9.add (by have := HFL.out; omega) ma more mc (HC9.out.bytesAt HMA.out (fun _ _ h => h)) (fun h0 x hx => HTK9.out.b0 _ (bytes_lt HMA.out h0 hx)) (by
          have h2 : Wc.length ≤ W.length := by rw [← HWC.out, List.length_take]; omega
          have h3 := HWL.out
          have h4 := HML.out
          omega)
        rw [HF.out] at h1
        exact h1
      clear hdk9 hc9 HCU
      go_wp2_with fail
      refine HADD.out.mono ?_
      rintro e w10 ⟨rfl, hdk10, hc10⟩
      have HC10 : Hid (Chg Nil w w10) := HC9.out.trans hc10 (fun k hk => .inr (Nat.le_of_not_lt fun hl => hk (HTK9.out.b0 k hl)))
      have HTK10 := Lib.hid (HTK9.out.off hc10)
      obtain ⟨n, hn, hpre, hmax⟩ := whole_count (fun k => F.take (batBs (L.take k)).length = batBs (L.take k)) L.length (by simp [batBs])
      obtain ⟨junk, hju, hjd⟩ := torn_end HNU.out.1 HML.out (by rw [HWE.out]; exact HCL.out) hn (by rw [HWE.out, HWC.out]; exact HF.out.symm) (hpre n (Nat.le_refl _)) hmax
      have HOP : Hid (Calls Tryz.prog 8 #[.pointer (some ⟨p, 0, none⟩), .string ⟨#[115]⟩, .int .i64 (bn : Nat)] w10 fun e w' => (∃ t S' v', e = .returned (.tuple #[.pointer (some ⟨t, 0, none⟩), .int .i64 (junk.length : Nat), .nilIface]) ∧ SgI B w' p t S' v' fn bn (L.take n)) ∧ Chg (Off B) w10 w') := by
        have h1 : DkI B w10 p (segName [115] bn) F := by rw [HFN.out]; exact hdk10
        have h2 := h1.open' (HT.out.chg HC10.out) (by have := HBN.out; omega) (L.take n) junk hju (fun b hb => HNU.out.1 b (List.mem_of_mem_take hb)) (rising_take n HNU.out.2) hjd
        rw [HFN.out] at h2
        exact h2
      have HN := Lib.hid hn
      have HPRE := Lib.hid hpre
      have HMAX := Lib.hid hmax
      have HJU := Lib.hid hju
      clear hdk10 hc10 HADD hn hpre hmax hju hjd
      go_wp2_with fail
      refine HOP.out.mono ?_
      rintro e w11 ⟨⟨t, S2, v2, rfl, hsi11⟩, hc11⟩
      have HC11 : Hid (Chg Nil w w11) := HC10.out.trans hc11 (fun k hk => .inr (Nat.le_of_not_lt fun hl => hk (HTK10.out.b0 k hl)))
      have HTK11 := Lib.hid (HTK10.out.off hc11)
      have HSI11 := Lib.hid hsi11
      obtain ⟨g, rfl, hcs⟩ := szs_at HTK11.out.sz
      rw [HLE.out] at hcs
      have HCS := Lib.hid hcs
      obtain ⟨jl, hjl⟩ : ∃ jl, junk.length = jl := ⟨_, rfl⟩
      rw [hjl]
      have HJL : Hid ((jl : Int) = c + more.length - (batBs (L.take n)).length) := by
        have h1 := congrArg List.length HJU.out
        rw [← HF.out, List.length_append, List.length_append, ← HWC.out, List.length_take, hjl] at h1
        have h2 := HCL.out
        unfold Hid
        omega
      clear hsi11 hc11 HOP hcs hjl
      go_wp2_with fail
      go_loopw [21] (fun nv wr => ∃ (wq : World) (k : Nat), wq = wr ∧ k ≤ n ∧ nv = .int .i64 k ∧ Chg Nil w11 wr) (fun nv _ => n - (RowKit.intOf nv).toNat)
      case atStart => exact ⟨_, 0, rfl, Nat.zero_le _, rfl, Chg.refl _ _⟩
      case round =>
        obtain ⟨w12, k, rfl, hk, rfl, hc12⟩ := hrel
        have HC12 := Lib.hid hc12
        have HK := Lib.hid hk
        have hk64 : wrap64 ((k : Int) + 1) = (k : Int) + 1 := by have h1 := HN.out; have h2 := HLL.out; have h3 := HMSL.out; unfold wrap64; omega
        clear hc12
        go_upto_region 29 with fail
        go_cut [168] (fun bv wy => bv = .bool (decide (k < n)) ∧ Chg Nil w12 wy)
        case first =>
          by_cases hkn : k < n
          · have hk1 : (k : Int) + 1 < (ms.length : Int) + 1 := by have h1 := HN.out; have h2 := HLL.out; omega
            have hk0 : (0 : Int) ≤ (k : Int) + 1 := by omega
            have hp := HPRE.out (k + 1) (by omega)
            obtain ⟨P, hP⟩ : ∃ P, batBs (L.take (k + 1)) = P := ⟨_, rfl⟩
            have z1 := HC12.out.cell (HCS.out (k + 1) (by have h1 := HN.out; have h2 := HLL.out; omega)) (fun h => h)
            rw [hP] at hp z1
            have hPF : P.length ≤ F.length := by
              have h1 := congrArg List.length hp
              rw [List.length_take] at h1
              omega
            have hPW : P.length ≤ W.length := by rw [← hP, ← HWE.out]; exact batBs_take_le L (k + 1)
            have hxF := cut_take F hPF
            rw [hp] at hxF
            have hxW := cut_take W hPW
            have hpw : W.take P.length = P := by rw [← hP, ← HWE.out]; exact batBs_at L (k + 1)
            rw [hpw] at hxW
            have hPFi : (P.length : Int) ≤ (F.length : Int) := by omega
            have hF1 : ¬ F.length < P.length := by omega
            have hW1 : ¬ W.length < P.length := by omega
            have HKN := Lib.hid hkn
            clear hp hP hpw hk hkn
            refine wp_region_mono _ (Chg Nil) (by as_aux_lemma => kernel_rfl) (fun _ _ _ h k => h.trans k (fun _ h => h.elim)) [[], [0], [], [2], [1, 3], [4], [5], [5], [5, 7], [5, 6, 8], [5, 9], [5], [5, 11], [5, 10, 12], [5, 13], [14], [15], [15], [15], [15, 18], [15, 17, 19], [15, 20], [15, 16, 21], [15], [15], [15], [15, 25], [15, 24, 26], [15, 27], [15, 23, 28], [15, 22, 29], [15, 30]] rfl (by as_aux_lemma => kernel_rfl) (Chg.refl _ _).drew ?_
            ((with_reducible apply Walk.eq); case h => (intro w2 hw2 N hN; simp only [depsOf, List.filterMap_nil, List.filterMap_cons, List.getElem?_toArray, List.getElem?_cons_zero, List.getElem?_cons_succ, Option.bind_some, List.nil_append, List.cons_append, Ob]; go_simp; (try go_bits); with_reducible exact hN _ (Chg.refl _ _)))
            ((with_reducible apply Walk.eq); case h => (intro w2 hw2 N hN; simp only [depsOf, List.filterMap_nil, List.filterMap_cons, List.getElem?_toArray, List.getElem?_cons_zero, List.getElem?_cons_succ, Option.bind_some, List.nil_append, List.cons_append, Ob]; go_simp; (try go_bits); with_reducible exact hN _ (Chg.refl _ _)))
            ((with_reducible apply Walk.eq); case h => (intro w2 hw2 N hN; simp only [depsOf, List.filterMap_nil, List.filterMap_cons, List.getElem?_toArray, List.getElem?_cons_zero, List.getElem?_cons_succ, Option.bind_some, List.nil_append, List.cons_append, Ob]; go_simp; (try go_bits); with_reducible exact hN _ (Chg.refl _ _)))
            ((with_reducible apply Walk.eq); case h => (intro w2 hw2 N hN; simp only [depsOf, List.filterMap_nil, List.filterMap_cons, List.getElem?_toArray, List.getElem?_cons_zero, List.getElem?_cons_succ, Option.bind_some, List.nil_append, List.cons_append, Ob]; go_simp; (try go_bits); with_reducible exact hN _ (Chg.refl _ _)))
            ((with_reducible apply Walk.eq); case h => (intro w2 hw2 N hN; simp only [depsOf, List.filterMap_nil, List.filterMap_cons, List.getElem?_toArray, List.getElem?_cons_zero, List.getElem?_cons_succ, Option.bind_some, List.nil_append, List.cons_append, Ob]; go_simp; (try go_bits); with_reducible exact hN _ (Chg.refl _ _)))
            ((with_reducible apply Walk.eq); case h => (intro w2 hw2 N hN; simp only [depsOf, List.filterMap_nil, List.filterMap_cons, List.getElem?_toArray, List.getElem?_cons_zero, List.getElem?_cons_succ, Option.bind_some, List.nil_append, List.cons_append, Ob]; go_simp; (try go_bits); with_reducible exact hN _ (Chg.refl _ _)))
            ((with_reducible apply Walk.eq); case h => (intro w2 hw2 N hN; simp only [depsOf, List.filterMap_nil, List.filterMap_cons, List.getElem?_toArray, List.getElem?_cons_zero, List.getElem?_cons_succ, Option.bind_some, List.nil_append, List.cons_append, Ob]; go_simp; (try go_bits); with_reducible exact hN _ (Chg.refl _ _)))
            ((with_reducible apply Walk.eq); case h => (intro w2 hw2 N hN; simp only [depsOf, List.filterMap_nil, List.filterMap_cons, List.getElem?_toArray, List.getElem?_cons_zero, List.getElem?_cons_succ, Option.bind_some, List.nil_append, List.cons_append, Ob]; go_simp; (try go_bits); with_reducible exact hN _ (Chg.refl _ _)))
            ((with_reducible apply Walk.eq); case h => (intro w2 hw2 N hN; simp only [depsOf, List.filterMap_nil, List.filterMap_cons, List.getElem?_toArray, List.getElem?_cons_zero, List.getElem?_cons_succ, Option.bind_some, List.nil_append, List.cons_append, Ob]; go_simp; (try go_bits); with_reducible exact hN _ (Chg.refl _ _)))
            ((with_reducible apply Walk.eq); case h => (intro w2 hw2 N hN; simp only [depsOf, List.filterMap_nil, List.filterMap_cons, List.getElem?_toArray, List.getElem?_cons_zero, List.getElem?_cons_succ, Option.bind_some, List.nil_append, List.cons_append, Ob]; go_simp; (try go_bits); with_reducible exact hN _ (Chg.refl _ _)))
            ((with_reducible apply Walk.eq); case h => (intro w2 hw2 N hN; have hq := hw2.cell z1 (fun h => h); simp only [depsOf, List.filterMap_nil, List.filterMap_cons, List.getElem?_toArray, List.getElem?_cons_zero, List.getElem?_cons_succ, Option.bind_some, List.nil_append, List.cons_append, Ob]; go_simp; with_reducible exact hN _ (Chg.refl _ _)))
            ((with_reducible apply Walk.eq); case h => (intro w2 hw2 N hN; simp only [depsOf, List.filterMap_nil, List.filterMap_cons, List.getElem?_toArray, List.getElem?_cons_zero, List.getElem?_cons_succ, Option.bind_some, List.nil_append, List.cons_append, Ob]; go_simp; (try go_bits); with_reducible exact hN _ (Chg.refl _ _)))
            ((with_reducible apply Walk.eq); case h => (intro w2 hw2 N hN; simp only [depsOf, List.filterMap_nil, List.filterMap_cons, List.getElem?_toArray, List.getElem?_cons_zero, List.getElem?_cons_succ, Option.bind_some, List.nil_append, List.cons_append, Ob]; go_simp; (try go_bits); with_reducible exact hN _ (Chg.refl _ _)))
            ((with_reducible apply Walk.eq); case h => (intro w2 hw2 N hN; simp only [depsOf, List.filterMap_nil, List.filterMap_cons, List.getElem?_toArray, List.getElem?_cons_zero, List.getElem?_cons_succ, Option.bind_some, List.nil_append, List.cons_append, Ob]; go_simp; (try go_bits); with_reducible exact hN _ (Chg.refl _ _)))
            ((with_reducible apply Walk.eq); case h => (intro w2 hw2 N hN; simp only [depsOf, List.filterMap_nil, List.filterMap_cons, List.getElem?_toArray, List.getElem?_cons_zero, List.getElem?_cons_succ, Option.bind_some, List.nil_append, List.cons_append, Ob]; go_simp; (try go_bits); with_reducible exact hN _ (Chg.refl _ _)))
            ((with_reducible apply Walk.eq); case h => (intro w2 hw2 N hN; simp only [depsOf, List.filterMap_nil, List.filterMap_cons, List.getElem?_toArray, List.getElem?_cons_zero, List.getElem?_cons_succ, Option.bind_some, List.nil_append, List.cons_append, Ob]; go_simp; (try go_bits); with_reducible exact hN _ (Chg.refl _ _)))
            ((with_reducible apply Walk.eq); case h => (intro w2 hw2 N hN; simp only [depsOf, List.filterMap_nil, List.filterMap_cons, List.getElem?_toArray, List.getElem?_cons_zero, List.getElem?_cons_succ, Option.bind_some, List.nil_append, List.cons_append, Ob]; go_simp; (try go_bits); with_reducible exact hN _ (Chg.refl _ _)))
            ((with_reducible apply Walk.eq); case h => (intro w2 hw2 N hN; simp only [depsOf, List.filterMap_nil, List.filterMap_cons, List.getElem?_toArray, List.getElem?_cons_zero, List.getElem?_cons_succ, Option.bind_some, List.nil_append, List.cons_append, Ob]; go_simp; (try go_bits); with_reducible exact hN _ (Chg.refl _ _)))
            ((with_reducible apply Walk.eq); case h => (intro w2 hw2 N hN; simp only [depsOf, List.filterMap_nil, List.filterMap_cons, List.getElem?_toArray, List.getElem?_cons_zero, List.getElem?_cons_succ, Option.bind_some, List.nil_append, List.cons_append, Ob]; go_simp; (try go_bits); with_reducible exact hN _ (Chg.refl _ _)))
            ((with_reducible apply Walk.eq); case h => (intro w2 hw2 N hN; simp only [depsOf, List.filterMap_nil, List.filterMap_cons, List.getElem?_toArray, List.getElem?_cons_zero, List.getElem?_cons_succ, Option.bind_some, List.nil_append, List.cons_append, Ob]; go_simp; (try go_bits); with_reducible exact hN _ (Chg.refl _ _)))
            ((with_reducible apply Walk.eq); case h => (intro w2 hw2 N hN; simp only [depsOf, List.filterMap_nil, List.filterMap_cons, List.getElem?_toArray, List.getElem?_cons_zero, List.getElem?_cons_succ, Option.bind_some, List.nil_append, List.cons_append, Ob]; go_simp; (try go_bits); with_reducible exact hN _ (Chg.refl _ _)))
            ((with_reducible apply Walk.eq); case h => (intro w2 hw2 N hN; have hq := hw2.cell z1 (fun h => h); simp only [depsOf, List.filterMap_nil, List.filterMap_cons, List.getElem?_toArray, List.getElem?_cons_zero, List.getElem?_cons_succ, Option.bind_some, List.nil_append, List.cons_append, Ob]; go_simp; with_reducible exact hN _ (Chg.refl _ _)))
            ((with_reducible apply Walk.eq); case h => (intro w2 hw2 N hN; simp only [depsOf, List.filterMap_nil, List.filterMap_cons, List.getElem?_toArray, List.getElem?_cons_zero, List.getElem?_cons_succ, Option.bind_some, List.nil_append, List.cons_append, Ob]; go_simp; (try go_bits); with_reducible exact hN _ (Chg.refl _ _)))
            ((with_reducible apply Walk.eq); case h => (intro w2 hw2 N hN; simp only [depsOf, List.filterMap_nil, List.filterMap_cons, List.getElem?_toArray, List.getElem?_cons_zero, List.getElem?_cons_succ, Option.bind_some, List.nil_append, List.cons_append, Ob]; go_simp; (try go_bits); with_reducible exact hN _ (Chg.refl _ _)))
            ((with_reducible apply Walk.eq); case h => (intro w2 hw2 N hN; simp only [depsOf, List.filterMap_nil, List.filterMap_cons, List.getElem?_toArray, List.getElem?_cons_zero, List.getElem?_cons_succ, Option.bind_some, List.nil_append, List.cons_append, Ob]; go_simp; (try go_bits); with_reducible exact hN _ (Chg.refl _ _)))
            ((with_reducible apply Walk.eq); case h => (intro w2 hw2 N hN; simp only [depsOf, List.filterMap_nil, List.filterMap_cons, List.getElem?_toArray, List.getElem?_cons_zero, List.getElem?_cons_succ, Option.bind_some, List.nil_append, List.cons_append, Ob]; go_simp; (try go_bits); with_reducible exact hN _ (Chg.refl _ _)))
            ((with_reducible apply Walk.eq); case h => (intro w2 hw2 N hN; simp only [depsOf, List.filterMap_nil, List.filterMap_cons, List.getElem?_toArray, List.getElem?_cons_zero, List.getElem?_cons_succ, Option.bind_some, List.nil_append, List.cons_append, Ob]; go_simp; (try go_bits); with_reducible exact hN _ (Chg.refl _ _)))
            ((with_reducible apply Walk.eq); case h => (intro w2 hw2 N hN; simp only [depsOf, List.filterMap_nil, List.filterMap_cons, List.getElem?_toArray, List.getElem?_cons_zero, List.getElem?_cons_succ, Option.bind_some, List.nil_append, List.cons_append, Ob]; go_simp; (try go_bits); with_reducible exact hN _ (Chg.refl _ _)))
            ((with_reducible apply Walk.eq); case h => (intro w2 hw2 N hN; have hq := hw2.cell z1 (fun h => h); simp only [depsOf, List.filterMap_nil, List.filterMap_cons, List.getElem?_toArray, List.getElem?_cons_zero, List.getElem?_cons_succ, Option.bind_some, List.nil_append, List.cons_append, Ob]; go_simp; with_reducible exact hN _ (Chg.refl _ _)))
            ((with_reducible apply Walk.eq); case h => (intro w2 hw2 N hN; simp only [depsOf, List.filterMap_nil, List.filterMap_cons, List.getElem?_toArray, List.getElem?_cons_zero, List.getElem?_cons_succ, Option.bind_some, List.nil_append, List.cons_append, Ob]; go_simp; (try go_bits); with_reducible exact hN _ (Chg.refl _ _)))
            ((with_reducible apply Walk.eq); case h => (intro w2 hw2 N hN; simp only [depsOf, List.filterMap_nil, List.filterMap_cons, List.getElem?_toArray, List.getElem?_cons_zero, List.getElem?_cons_succ, Option.bind_some, List.nil_append, List.cons_append, Ob]; go_simp; (try go_bits); with_reducible exact hN _ (Chg.refl _ _)))
            ((with_reducible apply Walk.eq); case h => (intro w2 hw2 N hN; simp only [depsOf, List.filterMap_nil, List.filterMap_cons, List.getElem?_toArray, List.getElem?_cons_zero, List.getElem?_cons_succ, Option.bind_some, List.nil_append, List.cons_append, Ob]; go_simp; (try go_bits); with_reducible exact hN _ (Chg.refl _ _)))
            intro w13 hw13
            simp only [List.nil_append, List.cons_append, Fin]
            have HW13 := Lib.hid hw13
            clear hw13
            go_simp
            go_wp2_with fail
            go_meet
            case rel => exact ⟨by rw [decide_eq_true HKN.out], HW13.out⟩
          · obtain rfl : k = n := by omega
            have HKN := Lib.hid hkn
            by_cases hnl : k < ms.length
            · have hk1 : (k : Int) + 1 < (ms.length : Int) + 1 := by omega
              have hk0 : (0 : Int) ≤ (k : Int) + 1 := by omega
              have hp := HMAX.out (by have h2 := HLL.out; omega)
              obtain ⟨P, hP⟩ : ∃ P, batBs (L.take (k + 1)) = P := ⟨_, rfl⟩
              have z1 := HC12.out.cell (HCS.out (k + 1) (by omega)) (fun h => h)
              rw [hP] at hp z1
              by_cases hPF : P.length ≤ F.length
              · have hPW : P.length ≤ W.length := by rw [← hP, ← HWE.out]; exact batBs_take_le L (k + 1)
                have hxF := cut_take F hPF
                obtain ⟨Fx, hFx⟩ : ∃ Fx, F.take P.length = Fx := ⟨_, rfl⟩
                rw [hFx] at hxF hp
                have hxW := cut_take W hPW
                have hpw : W.take P.length = P := by rw [← hP, ← HWE.out]; exact batBs_at L (k + 1)
                rw [hpw] at hxW
                have hPFi : (P.length : Int) ≤ (F.length : Int) := by omega
                have hF1 : ¬ F.length < P.length := by omega
                have hW1 : ¬ W.length < P.length := by omega
                have hne : (Fx == P) = false := beq_eq_false_iff_ne.2 hp
                clear hp hP hpw hk hkn hFx hnl
                refine wp_region_mono _ (Chg Nil) (by as_aux_lemma => kernel_rfl) (fun _ _ _ h k => h.trans k (fun _ h => h.elim)) [[], [0], [], [2], [1, 3], [4], [5], [5], [5, 7], [5, 6, 8], [5, 9], [5], [5, 11], [5, 10, 12], [5, 13], [14], [15], [15], [15], [15, 18], [15, 17, 19], [15, 20], [15, 16, 21], [15], [15], [15], [15, 25], [15, 24, 26], [15, 27], [15, 23, 28], [15, 22, 29], [15, 30]] rfl (by as_aux_lemma => kernel_rfl) (Chg.refl _ _).drew ?_
                ((with_reducible apply Walk.eq); case h => (intro w2 hw2 N hN; simp only [depsOf, List.filterMap_nil, List.filterMap_cons, List.getElem?_toArray, List.getElem?_cons_zero, List.getElem?_cons_succ, Option.bind_some, List.nil_append, List.cons_append, Ob]; go_simp; (try go_bits); with_reducible exact hN _ (Chg.refl _ _)))
                ((with_reducible apply Walk.eq); case h => (intro w2 hw2 N hN; simp only [depsOf, List.filterMap_nil, List.filterMap_cons, List.getElem?_toArray, List.getElem?_cons_zero, List.getElem?_cons_succ, Option.bind_some, List.nil_append, List.cons_append, Ob]; go_simp; (try go_bits); with_reducible exact hN _ (Chg.refl _ _)))
                ((with_reducible apply Walk.eq); case h => (intro w2 hw2 N hN; simp only [depsOf, List.filterMap_nil, List.filterMap_cons, List.getElem?_toArray, List.getElem?_cons_zero, List.getElem?_cons_succ, Option.bind_some, List.nil_append, List.cons_append, Ob]; go_simp; (try go_bits); with_reducible exact hN _ (Chg.refl _ _)))
                ((with_reducible apply Walk.eq); case h => (intro w2 hw2 N hN; simp only [depsOf, List.filterMap_nil, List.filterMap_cons, List.getElem?_toArray, List.getElem?_cons_zero, List.getElem?_cons_succ, Option.bind_some, List.nil_append, List.cons_append, Ob]; go_simp; (try go_bits); with_reducible exact hN _ (Chg.refl _ _)))
                ((with_reducible apply Walk.eq); case h => (intro w2 hw2 N hN; simp only [depsOf, List.filterMap_nil, List.filterMap_cons, List.getElem?_toArray, List.getElem?_cons_zero, List.getElem?_cons_succ, Option.bind_some, List.nil_append, List.cons_append, Ob]; go_simp; (try go_bits); with_reducible exact hN _ (Chg.refl _ _)))
                ((with_reducible apply Walk.eq); case h => (intro w2 hw2 N hN; simp only [depsOf, List.filterMap_nil, List.filterMap_cons, List.getElem?_toArray, List.getElem?_cons_zero, List.getElem?_cons_succ, Option.bind_some, List.nil_append, List.cons_append, Ob]; go_simp; (try go_bits); with_reducible exact hN _ (Chg.refl _ _)))
                ((with_reducible apply Walk.eq); case h => (intro w2 hw2 N hN; simp only [depsOf, List.filterMap_nil, List.filterMap_cons, List.getElem?_toArray, List.getElem?_cons_zero, List.getElem?_cons_succ, Option.bind_some, List.nil_append, List.cons_append, Ob]; go_simp; (try go_bits); with_reducible exact hN _ (Chg.refl _ _)))
                ((with_reducible apply Walk.eq); case h => (intro w2 hw2 N hN; simp only [depsOf, List.filterMap_nil, List.filterMap_cons, List.getElem?_toArray, List.getElem?_cons_zero, List.getElem?_cons_succ, Option.bind_some, List.nil_append, List.cons_append, Ob]; go_simp; (try go_bits); with_reducible exact hN _ (Chg.refl _ _)))
                ((with_reducible apply Walk.eq); case h => (intro w2 hw2 N hN; simp only [depsOf, List.filterMap_nil, List.filterMap_cons, List.getElem?_toArray, List.getElem?_cons_zero, List.getElem?_cons_succ, Option.bind_some, List.nil_append, List.cons_append, Ob]; go_simp; (try go_bits); with_reducible exact hN _ (Chg.refl _ _)))
                ((with_reducible apply Walk.eq); case h => (intro w2 hw2 N hN; simp only [depsOf, List.filterMap_nil, List.filterMap_cons, List.getElem?_toArray, List.getElem?_cons_zero, List.getElem?_cons_succ, Option.bind_some, List.nil_append, List.cons_append, Ob]; go_simp; (try go_bits); with_reducible exact hN _ (Chg.refl _ _)))
                ((with_reducible apply Walk.eq); case h => (intro w2 hw2 N hN; have hq := hw2.cell z1 (fun h => h); simp only [depsOf, List.filterMap_nil, List.filterMap_cons, List.getElem?_toArray, List.getElem?_cons_zero, List.getElem?_cons_succ, Option.bind_some, List.nil_append, List.cons_append, Ob]; go_simp; with_reducible exact hN _ (Chg.refl _ _)))
                ((with_reducible apply Walk.eq); case h => (intro w2 hw2 N hN; simp only [depsOf, List.filterMap_nil, List.filterMap_cons, List.getElem?_toArray, List.getElem?_cons_zero, List.getElem?_cons_succ, Option.bind_some, List.nil_append, List.cons_append, Ob]; go_simp; (try go_bits); with_reducible exact hN _ (Chg.refl _ _)))
                ((with_reducible apply Walk.eq); case h => (intro w2 hw2 N hN; simp only [depsOf, List.filterMap_nil, List.filterMap_cons, List.getElem?_toArray, List.getElem?_cons_zero, List.getElem?_cons_succ, Option.bind_some, List.nil_append, List.cons_append, Ob]; go_simp; (try go_bits); with_reducible exact hN _ (Chg.refl _ _)))
                ((with_reducible apply Walk.eq); case h => (intro w2 hw2 N hN; simp only [depsOf, List.filterMap_nil, List.filterMap_cons, List.getElem?_toArray, List.getElem?_cons_zero, List.getElem?_cons_succ, Option.bind_some, List.nil_append, List.cons_append, Ob]; go_simp; (try go_bits); with_reducible exact hN _ (Chg.refl _ _)))
                ((with_reducible apply Walk.eq); case h => (intro w2 hw2 N hN; simp only [depsOf, List.filterMap_nil, List.filterMap_cons, List.getElem?_toArray, List.getElem?_cons_zero, List.getElem?_cons_succ, Option.bind_some, List.nil_append, List.cons_append, Ob]; go_simp; (try go_bits); with_reducible exact hN _ (Chg.refl _ _)))
                ((with_reducible apply Walk.eq); case h => (intro w2 hw2 N hN; simp only [depsOf, List.filterMap_nil, List.filterMap_cons, List.getElem?_toArray, List.getElem?_cons_zero, List.getElem?_cons_succ, Option.bind_some, List.nil_append, List.cons_append, Ob]; go_simp; (try go_bits); with_reducible exact hN _ (Chg.refl _ _)))
                ((with_reducible apply Walk.eq); case h => (intro w2 hw2 N hN; simp only [depsOf, List.filterMap_nil, List.filterMap_cons, List.getElem?_toArray, List.getElem?_cons_zero, List.getElem?_cons_succ, Option.bind_some, List.nil_append, List.cons_append, Ob]; go_simp; (try go_bits); with_reducible exact hN _ (Chg.refl _ _)))
                ((with_reducible apply Walk.eq); case h => (intro w2 hw2 N hN; simp only [depsOf, List.filterMap_nil, List.filterMap_cons, List.getElem?_toArray, List.getElem?_cons_zero, List.getElem?_cons_succ, Option.bind_some, List.nil_append, List.cons_append, Ob]; go_simp; (try go_bits); with_reducible exact hN _ (Chg.refl _ _)))
                ((with_reducible apply Walk.eq); case h => (intro w2 hw2 N hN; simp only [depsOf, List.filterMap_nil, List.filterMap_cons, List.getElem?_toArray, List.getElem?_cons_zero, List.getElem?_cons_succ, Option.bind_some, List.nil_append, List.cons_append, Ob]; go_simp; (try go_bits); with_reducible exact hN _ (Chg.refl _ _)))
                ((with_reducible apply Walk.eq); case h => (intro w2 hw2 N hN; simp only [depsOf, List.filterMap_nil, List.filterMap_cons, List.getElem?_toArray, List.getElem?_cons_zero, List.getElem?_cons_succ, Option.bind_some, List.nil_append, List.cons_append, Ob]; go_simp; (try go_bits); with_reducible exact hN _ (Chg.refl _ _)))
                ((with_reducible apply Walk.eq); case h => (intro w2 hw2 N hN; simp only [depsOf, List.filterMap_nil, List.filterMap_cons, List.getElem?_toArray, List.getElem?_cons_zero, List.getElem?_cons_succ, Option.bind_some, List.nil_append, List.cons_append, Ob]; go_simp; (try go_bits); with_reducible exact hN _ (Chg.refl _ _)))
                ((with_reducible apply Walk.eq); case h => (intro w2 hw2 N hN; have hq := hw2.cell z1 (fun h => h); simp only [depsOf, List.filterMap_nil, List.filterMap_cons, List.getElem?_toArray, List.getElem?_cons_zero, List.getElem?_cons_succ, Option.bind_some, List.nil_append, List.cons_append, Ob]; go_simp; with_reducible exact hN _ (Chg.refl _ _)))
                ((with_reducible apply Walk.eq); case h => (intro w2 hw2 N hN; simp only [depsOf, List.filterMap_nil, List.filterMap_cons, List.getElem?_toArray, List.getElem?_cons_zero, List.getElem?_cons_succ, Option.bind_some, List.nil_append, List.cons_append, Ob]; go_simp; (try go_bits); with_reducible exact hN _ (Chg.refl _ _)))
                ((with_reducible apply Walk.eq); case h => (intro w2 hw2 N hN; simp only [depsOf, List.filterMap_nil, List.filterMap_cons, List.getElem?_toArray, List.getElem?_cons_zero, List.getElem?_cons_succ, Option.bind_some, List.nil_append, List.cons_append, Ob]; go_simp; (try go_bits); with_reducible exact hN _ (Chg.refl _ _)))
                ((with_reducible apply Walk.eq); case h => (intro w2 hw2 N hN; simp only [depsOf, List.filterMap_nil, List.filterMap_cons, List.getElem?_toArray, List.getElem?_cons_zero, List.getElem?_cons_succ, Option.bind_some, List.nil_append, List.cons_append, Ob]; go_simp; (try go_bits); with_reducible exact hN _ (Chg.refl _ _)))
                ((with_reducible apply Walk.eq); case h => (intro w2 hw2 N hN; simp only [depsOf, List.filterMap_nil, List.filterMap_cons, List.getElem?_toArray, List.getElem?_cons_zero, List.getElem?_cons_succ, Option.bind_some, List.nil_append, List.cons_append, Ob]; go_simp; (try go_bits); with_reducible exact hN _ (Chg.refl _ _)))
                ((with_reducible apply Walk.eq); case h => (intro w2 hw2 N hN; simp only [depsOf, List.filterMap_nil, List.filterMap_cons, List.getElem?_toArray, List.getElem?_cons_zero, List.getElem?_cons_succ, Option.bind_some, List.nil_append, List.cons_append, Ob]; go_simp; (try go_bits); with_reducible exact hN _ (Chg.refl _ _)))
                ((with_reducible apply Walk.eq); case h => (intro w2 hw2 N hN; simp only [depsOf, List.filterMap_nil, List.filterMap_cons, List.getElem?_toArray, List.getElem?_cons_zero, List.getElem?_cons_succ, Option.bind_some, List.nil_append, List.cons_append, Ob]; go_simp; (try go_bits); with_reducible exact hN _ (Chg.refl _ _)))
                ((with_reducible apply Walk.eq); case h => (intro w2 hw2 N hN; have hq := hw2.cell z1 (fun h => h); simp only [depsOf, List.filterMap_nil, List.filterMap_cons, List.getElem?_toArray, List.getElem?_cons_zero, List.getElem?_cons_succ, Option.bind_some, List.nil_append, List.cons_append, Ob]; go_simp; with_reducible exact hN _ (Chg.refl _ _)))
                ((with_reducible apply Walk.eq); case h => (intro w2 hw2 N hN; simp only [depsOf, List.filterMap_nil, List.filterMap_cons, List.getElem?_toArray, List.getElem?_cons_zero, List.getElem?_cons_succ, Option.bind_some, List.nil_append, List.cons_append, Ob]; go_simp; (try go_bits); with_reducible exact hN _ (Chg.refl _ _)))
                ((with_reducible apply Walk.eq); case h => (intro w2 hw2 N hN; simp only [depsOf, List.filterMap_nil, List.filterMap_cons, List.getElem?_toArray, List.getElem?_cons_zero, List.getElem?_cons_succ, Option.bind_some, List.nil_append, List.cons_append, Ob]; go_simp; (try go_bits); with_reducible exact hN _ (Chg.refl _ _)))
                ((with_reducible apply Walk.eq); case h => (intro w2 hw2 N hN; simp only [depsOf, List.filterMap_nil, List.filterMap_cons, List.getElem?_toArray, List.getElem?_cons_zero, List.getElem?_cons_succ, Option.bind_some, List.nil_append, List.cons_append, Ob]; go_simp; (try go_bits); with_reducible exact hN _ (Chg.refl _ _)))
                intro w13 hw13
                simp only [List.nil_append, List.cons_append, Fin]
                have HW13 := Lib.hid hw13
                clear hw13
                go_simp
                go_wp2_with fail
                go_meet
                case rel => exact ⟨by rw [decide_eq_false HKN.out], HW13.out⟩
              · have hPFi : ¬ (P.length : Int) ≤ (F.length : Int) := by omega
                clear hp hP hk hkn hnl
                refine wp_region_mono _ (Chg Nil) (by as_aux_lemma => kernel_rfl) (fun _ _ _ h k => h.trans k (fun _ h => h.elim)) [[], [0], [], [2], [1, 3], [4], [5], [5], [5, 7], [5, 6, 8], [5, 9], [5], [5, 11], [5, 10, 12], [5, 13], [14], [15], [15], [15], [15, 18], [15, 17, 19], [15, 20], [15, 16, 21], [15], [15], [15], [15, 25], [15, 24, 26], [15, 27], [15, 23, 28], [15, 22, 29], [15, 30]] rfl (by as_aux_lemma => kernel_rfl) (Chg.refl _ _).drew ?_
                ((with_reducible apply Walk.eq); case h => (intro w2 hw2 N hN; simp only [depsOf, List.filterMap_nil, List.filterMap_cons, List.getElem?_toArray, List.getElem?_cons_zero, List.getElem?_cons_succ, Option.bind_some, List.nil_append, List.cons_append, Ob]; go_simp; (try go_bits); with_reducible exact hN _ (Chg.refl _ _)))
                ((with_reducible apply Walk.eq); case h => (intro w2 hw2 N hN; simp only [depsOf, List.filterMap_nil, List.filterMap_cons, List.getElem?_toArray, List.getElem?_cons_zero, List.getElem?_cons_succ, Option.bind_some, List.nil_append, List.cons_append, Ob]; go_simp; (try go_bits); with_reducible exact hN _ (Chg.refl _ _)))
                ((with_reducible apply Walk.eq); case h => (intro w2 hw2 N hN; simp only [depsOf, List.filterMap_nil, List.filterMap_cons, List.getElem?_toArray, List.getElem?_cons_zero, List.getElem?_cons_succ, Option.bind_some, List.nil_append, List.cons_append, Ob]; go_simp; (try go_bits); with_reducible exact hN _ (Chg.refl _ _)))
                ((with_reducible apply Walk.eq); case h => (intro w2 hw2 N hN; simp only [depsOf, List.filterMap_nil, List.filterMap_cons, List.getElem?_toArray, List.getElem?_cons_zero, List.getElem?_cons_succ, Option.bind_some, List.nil_append, List.cons_append, Ob]; go_simp; (try go_bits); with_reducible exact hN _ (Chg.refl _ _)))
                ((with_reducible apply Walk.eq); case h => (intro w2 hw2 N hN; simp only [depsOf, List.filterMap_nil, List.filterMap_cons, List.getElem?_toArray, List.getElem?_cons_zero, List.getElem?_cons_succ, Option.bind_some, List.nil_append, List.cons_append, Ob]; go_simp; (try go_bits); with_reducible exact hN _ (Chg.refl _ _)))
                ((with_reducible apply Walk.eq); case h => (intro w2 hw2 N hN; simp only [depsOf, List.filterMap_nil, List.filterMap_cons, List.getElem?_toArray, List.getElem?_cons_zero, List.getElem?_cons_succ, Option.bind_some, List.nil_append, List.cons_append, Ob]; go_simp; (try go_bits); with_reducible exact hN _ (Chg.refl _ _)))
                ((with_reducible apply Walk.eq); case h => (intro w2 hw2 N hN; simp only [depsOf, List.filterMap_nil, List.filterMap_cons, List.getElem?_toArray, List.getElem?_cons_zero, List.getElem?_cons_succ, Option.bind_some, List.nil_append, List.cons_append, Ob]; go_simp; (try go_bits); with_reducible exact hN _ (Chg.refl _ _)))
                ((with_reducible apply Walk.eq); case h => (intro w2 hw2 N hN; simp only [depsOf, List.filterMap_nil, List.filterMap_cons, List.getElem?_toArray, List.getElem?_cons_zero, List.getElem?_cons_succ, Option.bind_some, List.nil_append, List.cons_append, Ob]; go_simp; (try go_bits); with_reducible exact hN _ (Chg.refl _ _)))
                ((with_reducible apply Walk.eq); case h => (intro w2 hw2 N hN; simp only [depsOf, List.filterMap_nil, List.filterMap_cons, List.getElem?_toArray, List.getElem?_cons_zero, List.getElem?_cons_succ, Option.bind_some, List.nil_append, List.cons_append, Ob]; go_simp; (try go_bits); with_reducible exact hN _ (Chg.refl _ _)))
                ((with_reducible apply Walk.eq); case h => (intro w2 hw2 N hN; simp only [depsOf, List.filterMap_nil, List.filterMap_cons, List.getElem?_toArray, List.getElem?_cons_zero, List.getElem?_cons_succ, Option.bind_some, List.nil_append, List.cons_append, Ob]; go_simp; (try go_bits); with_reducible exact hN _ (Chg.refl _ _)))
                ((with_reducible apply Walk.eq); case h => (intro w2 hw2 N hN; have hq := hw2.cell z1 (fun h => h); simp only [depsOf, List.filterMap_nil, List.filterMap_cons, List.getElem?_toArray, List.getElem?_cons_zero, List.getElem?_cons_succ, Option.bind_some, List.nil_append, List.cons_append, Ob]; go_simp; with_reducible exact hN _ (Chg.refl _ _)))
                ((with_reducible apply Walk.eq); case h => (intro w2 hw2 N hN; simp only [depsOf, List.filterMap_nil, List.filterMap_cons, List.getElem?_toArray, List.getElem?_cons_zero, List.getElem?_cons_succ, Option.bind_some, List.nil_append, List.cons_append, Ob]; go_simp; (try go_bits); with_reducible exact hN _ (Chg.refl _ _)))
                ((with_reducible apply Walk.eq); case h => (intro w2 hw2 N hN; simp only [depsOf, List.filterMap_nil, List.filterMap_cons, List.getElem?_toArray, List.getElem?_cons_zero, List.getElem?_cons_succ, Option.bind_some, List.nil_append, List.cons_append, Ob]; go_simp; (try go_bits); with_reducible exact hN _ (Chg.refl _ _)))
                ((with_reducible apply Walk.eq); case h => (intro w2 hw2 N hN; simp only [depsOf, List.filterMap_nil, List.filterMap_cons, List.getElem?_toArray, List.getElem?_cons_zero, List.getElem?_cons_succ, Option.bind_some, List.nil_append, List.cons_append, Ob]; go_simp; (try go_bits); with_reducible exact hN _ (Chg.refl _ _)))
                ((with_reducible apply Walk.eq); case h => (intro w2 hw2 N hN; simp only [depsOf, List.filterMap_nil, List.filterMap_cons, List.getElem?_toArray, List.getElem?_cons_zero, List.getElem?_cons_succ, Option.bind_some, List.nil_append, List.cons_append, Ob]; go_simp; (try go_bits); with_reducible exact hN _ (Chg.refl _ _)))
                ((with_reducible apply Walk.eq); case h => (intro w2 hw2 N hN; simp only [depsOf, List.filterMap_nil, List.filterMap_cons, List.getElem?_toArray, List.getElem?_cons_zero, List.getElem?_cons_succ, Option.bind_some, List.nil_append, List.cons_append, Ob]; go_simp; (try go_bits); with_reducible exact hN _ (Chg.refl _ _)))
                ((with_reducible apply Walk.eq); case h => (intro w2 hw2 N hN; simp only [depsOf, List.filterMap_nil, List.filterMap_cons, List.getElem?_toArray, List.getElem?_cons_zero, List.getElem?_cons_succ, Option.bind_some, List.nil_append, List.cons_append, Ob]; go_simp; (try go_bits); with_reducible exact hN _ (Chg.refl _ _)))
                ((with_reducible apply Walk.eq); case h => (intro w2 hw2 N hN; simp only [depsOf, List.filterMap_nil, List.filterMap_cons, List.getElem?_toArray, List.getElem?_cons_zero, List.getElem?_cons_succ, Option.bind_some, List.nil_append, List.cons_append, Ob]; go_simp; (try go_bits); with_reducible exact hN _ (Chg.refl _ _)))
                ((with_reducible apply Walk.eq); case h => (intro w2 hw2 N hN; simp only [depsOf, List.filterMap_nil, List.filterMap_cons, List.getElem?_toArray, List.getElem?_cons_zero, List.getElem?_cons_succ, Option.bind_some, List.nil_append, List.cons_append, Ob]; go_simp; (try go_bits); with_reducible exact hN _ (Chg.refl _ _)))
                ((with_reducible apply Walk.eq); case h => (intro w2 hw2 N hN; simp only [depsOf, List.filterMap_nil, List.filterMap_cons, List.getElem?_toArray, List.getElem?_cons_zero, List.getElem?_cons_succ, Option.bind_some, List.nil_append, List.cons_append, Ob]; go_simp; (try go_bits); with_reducible exact hN _ (Chg.refl _ _)))
                ((with_reducible apply Walk.eq); case h => (intro w2 hw2 N hN; simp only [depsOf, List.filterMap_nil, List.filterMap_cons, List.getElem?_toArray, List.getElem?_cons_zero, List.getElem?_cons_succ, Option.bind_some, List.nil_append, List.cons_append, Ob]; go_simp; (try go_bits); with_reducible exact hN _ (Chg.refl _ _)))
                ((with_reducible apply Walk.eq); case h => (intro w2 hw2 N hN; simp only [depsOf, List.filterMap_nil, List.filterMap_cons, List.getElem?_toArray, List.getElem?_cons_zero, List.getElem?_cons_succ, Option.bind_some, List.nil_append, List.cons_append, Ob]; go_simp; (try go_bits); with_reducible exact hN _ (Chg.refl _ _)))
                ((with_reducible apply Walk.eq); case h => (intro w2 hw2 N hN; simp only [depsOf, List.filterMap_nil, List.filterMap_cons, List.getElem?_toArray, List.getElem?_cons_zero, List.getElem?_cons_succ, Option.bind_some, List.nil_append, List.cons_append, Ob]; go_simp; (try go_bits); with_reducible exact hN _ (Chg.refl _ _)))
                ((with_reducible apply Walk.eq); case h => (intro w2 hw2 N hN; simp only [depsOf, List.filterMap_nil, List.filterMap_cons, List.getElem?_toArray, List.getElem?_cons_zero, List.getElem?_cons_succ, Option.bind_some, List.nil_append, List.cons_append, Ob]; go_simp; (try go_bits); with_reducible exact hN _ (Chg.refl _ _)))
                ((with_reducible apply Walk.eq); case h => (intro w2 hw2 N hN; simp only [depsOf, List.filterMap_nil, List.filterMap_cons, List.getElem?_toArray, List.getElem?_cons_zero, List.getElem?_cons_succ, Option.bind_some, List.nil_append, List.cons_append, Ob]; go_simp; (try go_bits); with_reducible exact hN _ (Chg.refl _ _)))
                ((with_reducible apply Walk.eq); case h => (intro w2 hw2 N hN; simp only [depsOf, List.filterMap_nil, List.filterMap_cons, List.getElem?_toArray, List.getElem?_cons_zero, List.getElem?_cons_succ, Option.bind_some, List.nil_append, List.cons_append, Ob]; go_simp; (try go_bits); with_reducible exact hN _ (Chg.refl _ _)))
                ((with_reducible apply Walk.eq); case h => (intro w2 hw2 N hN; simp only [depsOf, List.filterMap_nil, List.filterMap_cons, List.getElem?_toArray, List.getElem?_cons_zero, List.getElem?_cons_succ, Option.bind_some, List.nil_append, List.cons_append, Ob]; go_simp; (try go_bits); with_reducible exact hN _ (Chg.refl _ _)))
                ((with_reducible apply Walk.eq); case h => (intro w2 hw2 N hN; simp only [depsOf, List.filterMap_nil, List.filterMap_cons, List.getElem?_toArray, List.getElem?_cons_zero, List.getElem?_cons_succ, Option.bind_some, List.nil_append, List.cons_append, Ob]; go_simp; (try go_bits); with_reducible exact hN _ (Chg.refl _ _)))
                ((with_reducible apply Walk.eq); case h => (intro w2 hw2 N hN; simp only [depsOf, List.filterMap_nil, List.filterMap_cons, List.getElem?_toArray, List.getElem?_cons_zero, List.getElem?_cons_succ, Option.bind_some, List.nil_append, List.cons_append, Ob]; go_simp; (try go_bits); with_reducible exact hN _ (Chg.refl _ _)))
                ((with_reducible apply Walk.eq); case h => (intro w2 hw2 N hN; simp only [depsOf, List.filterMap_nil, List.filterMap_cons, List.getElem?_toArray, List.getElem?_cons_zero, List.getElem?_cons_succ, Option.bind_some, List.nil_append, List.cons_append, Ob]; go_simp; (try go_bits); with_reducible exact hN _ (Chg.refl _ _)))
                ((with_reducible apply Walk.eq); case h => (intro w2 hw2 N hN; simp only [depsOf, List.filterMap_nil, List.filterMap_cons, List.getElem?_toArray, List.getElem?_cons_zero, List.getElem?_cons_succ, Option.bind_some, List.nil_append, List.cons_append, Ob]; go_simp; (try go_bits); with_reducible exact hN _ (Chg.refl _ _)))
                ((with_reducible apply Walk.eq); case h => (intro w2 hw2 N hN; simp only [depsOf, List.filterMap_nil, List.filterMap_cons, List.getElem?_toArray, List.getElem?_cons_zero, List.getElem?_cons_succ, Option.bind_some, List.nil_append, List.cons_append, Ob]; go_simp; (try go_bits); with_reducible exact hN _ (Chg.refl _ _)))
                intro w13 hw13
                simp only [List.nil_append, List.cons_append, Fin]
                have HW13 := Lib.hid hw13
                clear hw13
                go_simp
                go_wp2_with fail
                go_meet
                case rel => exact ⟨by rw [decide_eq_false HKN.out], HW13.out⟩
            · have hk1 : ¬ (k : Int) + 1 < (ms.length : Int) + 1 := by omega
              clear hk hkn hnl
              refine wp_region_mono _ (Chg Nil) (by as_aux_lemma => kernel_rfl) (fun _ _ _ h k => h.trans k (fun _ h => h.elim)) [[], [0], [], [2], [1, 3], [4], [5], [5], [5, 7], [5, 6, 8], [5, 9], [5], [5, 11], [5, 10, 12], [5, 13], [14], [15], [15], [15], [15, 18], [15, 17, 19], [15, 20], [15, 16, 21], [15], [15], [15], [15, 25], [15, 24, 26], [15, 27], [15, 23, 28], [15, 22, 29], [15, 30]] rfl (by as_aux_lemma => kernel_rfl) (Chg.refl _ _).drew ?_
              ((with_reducible apply Walk.eq); case h => (intro w2 hw2 N hN; simp only [depsOf, List.filterMap_nil, List.filterMap_cons, List.getElem?_toArray, List.getElem?_cons_zero, List.getElem?_cons_succ, Option.bind_some, List.nil_append, List.cons_append, Ob]; go_simp; (try go_bits); with_reducible exact hN _ (Chg.refl _ _)))
              ((with_reducible apply Walk.eq); case h => (intro w2 hw2 N hN; simp only [depsOf, List.filterMap_nil, List.filterMap_cons, List.getElem?_toArray, List.getElem?_cons_zero, List.getElem?_cons_succ, Option.bind_some, List.nil_append, List.cons_append, Ob]; go_simp; (try go_bits); with_reducible exact hN _ (Chg.refl _ _)))
              ((with_reducible apply Walk.eq); case h => (intro w2 hw2 N hN; simp only [depsOf, List.filterMap_nil, List.filterMap_cons, List.getElem?_toArray, List.getElem?_cons_zero, List.getElem?_cons_succ, Option.bind_some, List.nil_append, List.cons_append, Ob]; go_simp; (try go_bits); with_reducible exact hN _ (Chg.refl _ _)))
              ((with_reducible apply Walk.eq); case h => (intro w2 hw2 N hN; simp only [depsOf, List.filterMap_nil, List.filterMap_cons, List.getElem?_toArray, List.getElem?_cons_zero, List.getElem?_cons_succ, Option.bind_some, List.nil_append, List.cons_append, Ob]; go_simp; (try go_bits); with_reducible exact hN _ (Chg.refl _ _)))
              ((with_reducible apply Walk.eq); case h => (intro w2 hw2 N hN; simp only [depsOf, List.filterMap_nil, List.filterMap_cons, List.getElem?_toArray, List.getElem?_cons_zero, List.getElem?_cons_succ, Option.bind_some, List.nil_append, List.cons_append, Ob]; go_simp; (try go_bits); with_reducible exact hN _ (Chg.refl _ _)))
              ((with_reducible apply Walk.eq); case h => (intro w2 hw2 N hN; simp only [depsOf, List.filterMap_nil, List.filterMap_cons, List.getElem?_toArray, List.getElem?_cons_zero, List.getElem?_cons_succ, Option.bind_some, List.nil_append, List.cons_append, Ob]; go_simp; (try go_bits); with_reducible exact hN _ (Chg.refl _ _)))
              ((with_reducible apply Walk.eq); case h => (intro w2 hw2 N hN; simp only [depsOf, List.filterMap_nil, List.filterMap_cons, List.getElem?_toArray, List.getElem?_cons_zero, List.getElem?_cons_succ, Option.bind_some, List.nil_append, List.cons_append, Ob]; go_simp; (try go_bits); with_reducible exact hN _ (Chg.refl _ _)))
              ((with_reducible apply Walk.eq); case h => (intro w2 hw2 N hN; simp only [depsOf, List.filterMap_nil, List.filterMap_cons, List.getElem?_toArray, List.getElem?_cons_zero, List.getElem?_cons_succ, Option.bind_some, List.nil_append, List.cons_append, Ob]; go_simp; (try go_bits); with_reducible exact hN _ (Chg.refl _ _)))
              ((with_reducible apply Walk.eq); case h => (intro w2 hw2 N hN; simp only [depsOf, List.filterMap_nil, List.filterMap_cons, List.getElem?_toArray, List.getElem?_cons_zero, List.getElem?_cons_succ, Option.bind_some, List.nil_append, List.cons_append, Ob]; go_simp; (try go_bits); with_reducible exact hN _ (Chg.refl _ _)))
              ((with_reducible apply Walk.eq); case h => (intro w2 hw2 N hN; simp only [depsOf, List.filterMap_nil, List.filterMap_cons, List.getElem?_toArray, List.getElem?_cons_zero, List.getElem?_cons_succ, Option.bind_some, List.nil_append, List.cons_append, Ob]; go_simp; (try go_bits); with_reducible exact hN _ (Chg.refl _ _)))
              ((with_reducible apply Walk.eq); case h => (intro w2 hw2 N hN; simp only [depsOf, List.filterMap_nil, List.filterMap_cons, List.getElem?_toArray, List.getElem?_cons_zero, List.getElem?_cons_succ, Option.bind_some, List.nil_append, List.cons_append, Ob]; go_simp; (try go_bits); with_reducible exact hN _ (Chg.refl _ _)))
              ((with_reducible apply Walk.eq); case h => (intro w2 hw2 N hN; simp only [depsOf, List.filterMap_nil, List.filterMap_cons, List.getElem?_toArray, List.getElem?_cons_zero, List.getElem?_cons_succ, Option.bind_some, List.nil_append, List.cons_append, Ob]; go_simp; (try go_bits); with_reducible exact hN _ (Chg.refl _ _)))
              ((with_reducible apply Walk.eq); case h => (intro w2 hw2 N hN; simp only [depsOf, List.filterMap_nil, List.filterMap_cons, List.getElem?_toArray, List.getElem?_cons_zero, List.getElem?_cons_succ, Option.bind_some, List.nil_append, List.cons_append, Ob]; go_simp; (try go_bits); with_reducible exact hN _ (Chg.refl _ _)))
              ((with_reducible apply Walk.eq); case h => (intro w2 hw2 N hN; simp only [depsOf, List.filterMap_nil, List.filterMap_cons, List.getElem?_toArray, List.getElem?_cons_zero, List.getElem?_cons_succ, Option.bind_some, List.nil_append, List.cons_append, Ob]; go_simp; (try go_bits); with_reducible exact hN _ (Chg.refl _ _)))
              ((with_reducible apply Walk.eq); case h => (intro w2 hw2 N hN; simp only [depsOf, List.filterMap_nil, List.filterMap_cons, List.getElem?_toArray, List.getElem?_cons_zero, List.getElem?_cons_succ, Option.bind_some, List.nil_append, List.cons_append, Ob]; go_simp; (try go_bits); with_reducible exact hN _ (Chg.refl _ _)))
              ((with_reducible apply Walk.eq); case h => (intro w2 hw2 N hN; simp only [depsOf, List.filterMap_nil, List.filterMap_cons, List.getElem?_toArray, List.getElem?_cons_zero, List.getElem?_cons_succ, Option.bind_some, List.nil_append, List.cons_append, Ob]; go_simp; (try go_bits); with_reducible exact hN _ (Chg.refl _ _)))
              ((with_reducible apply Walk.eq); case h => (intro w2 hw2 N hN; simp only [depsOf, List.filterMap_nil, List.filterMap_cons, List.getElem?_toArray, List.getElem?_cons_zero, List.getElem?_cons_succ, Option.bind_some, List.nil_append, List.cons_append, Ob]; go_simp; (try go_bits); with_reducible exact hN _ (Chg.refl _ _)))
              ((with_reducible apply Walk.eq); case h => (intro w2 hw2 N hN; simp only [depsOf, List.filterMap_nil, List.filterMap_cons, List.getElem?_toArray, List.getElem?_cons_zero, List.getElem?_cons_succ, Option.bind_some, List.nil_append, List.cons_append, Ob]; go_simp; (try go_bits); with_reducible exact hN _ (Chg.refl _ _)))
              ((with_reducible apply Walk.eq); case h => (intro w2 hw2 N hN; simp only [depsOf, List.filterMap_nil, List.filterMap_cons, List.getElem?_toArray, List.getElem?_cons_zero, List.getElem?_cons_succ, Option.bind_some, List.nil_append, List.cons_append, Ob]; go_simp; (try go_bits); with_reducible exact hN _ (Chg.refl _ _)))
              ((with_reducible apply Walk.eq); case h => (intro w2 hw2 N hN; simp only [depsOf, List.filterMap_nil, List.filterMap_cons, List.getElem?_toArray, List.getElem?_cons_zero, List.getElem?_cons_succ, Option.bind_some, List.nil_append, List.cons_append, Ob]; go_simp; (try go_bits); with_reducible exact hN _ (Chg.refl _ _)))
              ((with_reducible apply Walk.eq); case h => (intro w2 hw2 N hN; simp only [depsOf, List.filterMap_nil, List.filterMap_cons, List.getElem?_toArray, List.getElem?_cons_zero, List.getElem?_cons_succ, Option.bind_some, List.nil_append, List.cons_append, Ob]; go_simp; (try go_bits); with_reducible exact hN _ (Chg.refl _ _)))
              ((with_reducible apply Walk.eq); case h => (intro w2 hw2 N hN; simp only [depsOf, List.filterMap_nil, List.filterMap_cons, List.getElem?_toArray, List.getElem?_cons_zero, List.getElem?_cons_succ, Option.bind_some, List.nil_append, List.cons_append, Ob]; go_simp; (try go_bits); with_reducible exact hN _ (Chg.refl _ _)))
              ((with_reducible apply Walk.eq); case h => (intro w2 hw2 N hN; simp only [depsOf, List.filterMap_nil, List.filterMap_cons, List.getElem?_toArray, List.getElem?_cons_zero, List.getElem?_cons_succ, Option.bind_some, List.nil_append, List.cons_append, Ob]; go_simp; (try go_bits); with_reducible exact hN _ (Chg.refl _ _)))
              ((with_reducible apply Walk.eq); case h => (intro w2 hw2 N hN; simp only [depsOf, List.filterMap_nil, List.filterMap_cons, List.getElem?_toArray, List.getElem?_cons_zero, List.getElem?_cons_succ, Option.bind_some, List.nil_append, List.cons_append, Ob]; go_simp; (try go_bits); with_reducible exact hN _ (Chg.refl _ _)))
              ((with_reducible apply Walk.eq); case h => (intro w2 hw2 N hN; simp only [depsOf, List.filterMap_nil, List.filterMap_cons, List.getElem?_toArray, List.getElem?_cons_zero, List.getElem?_cons_succ, Option.bind_some, List.nil_append, List.cons_append, Ob]; go_simp; (try go_bits); with_reducible exact hN _ (Chg.refl _ _)))
              ((with_reducible apply Walk.eq); case h => (intro w2 hw2 N hN; simp only [depsOf, List.filterMap_nil, List.filterMap_cons, List.getElem?_toArray, List.getElem?_cons_zero, List.getElem?_cons_succ, Option.bind_some, List.nil_append, List.cons_append, Ob]; go_simp; (try go_bits); with_reducible exact hN _ (Chg.refl _ _)))
              ((with_reducible apply Walk.eq); case h => (intro w2 hw2 N hN; simp only [depsOf, List.filterMap_nil, List.filterMap_cons, List.getElem?_toArray, List.getElem?_cons_zero, List.getElem?_cons_succ, Option.bind_some, List.nil_append, List.cons_append, Ob]; go_simp; (try go_bits); with_reducible exact hN _ (Chg.refl _ _)))
              ((with_reducible apply Walk.eq); case h => (intro w2 hw2 N hN; simp only [depsOf, List.filterMap_nil, List.filterMap_cons, List.getElem?_toArray, List.getElem?_cons_zero, List.getElem?_cons_succ, Option.bind_some, List.nil_append, List.cons_append, Ob]; go_simp; (try go_bits); with_reducible exact hN _ (Chg.refl _ _)))
              ((with_reducible apply Walk.eq); case h => (intro w2 hw2 N hN; simp only [depsOf, List.filterMap_nil, List.filterMap_cons, List.getElem?_toArray, List.getElem?_cons_zero, List.getElem?_cons_succ, Option.bind_some, List.nil_append, List.cons_append, Ob]; go_simp; (try go_bits); with_reducible exact hN _ (Chg.refl _ _)))
              ((with_reducible apply Walk.eq); case h => (intro w2 hw2 N hN; simp only [depsOf, List.filterMap_nil, List.filterMap_cons, List.getElem?_toArray, List.getElem?_cons_zero, List.getElem?_cons_succ, Option.bind_some, List.nil_append, List.cons_append, Ob]; go_simp; (try go_bits); with_reducible exact hN _ (Chg.refl _ _)))
              ((with_reducible apply Walk.eq); case h => (intro w2 hw2 N hN; simp only [depsOf, List.filterMap_nil, List.filterMap_cons, List.getElem?_toArray, List.getElem?_cons_zero, List.getElem?_cons_succ, Option.bind_some, List.nil_append, List.cons_append, Ob]; go_simp; (try go_bits); with_reducible exact hN _ (Chg.refl _ _)))
              ((with_reducible apply Walk.eq); case h => (intro w2 hw2 N hN; simp only [depsOf, List.filterMap_nil, List.filterMap_cons, List.getElem?_toArray, List.getElem?_cons_zero, List.getElem?_cons_succ, Option.bind_some, List.nil_append, List.cons_append, Ob]; go_simp; (try go_bits); with_reducible exact hN _ (Chg.refl _ _)))
              intro w13 hw13
              simp only [List.nil_append, List.cons_append, Fin]
              have HW13 := Lib.hid hw13
              clear hw13
              go_simp
              go_wp2_with fail
              go_meet
              case rel => exact ⟨by rw [decide_eq_false HKN.out], HW13.out⟩
        obtain ⟨rfl, hcc⟩ := hcut
        have HC13 := Lib.hid (HC12.out.trans hcc (fun _ h => h.elim))
        clear hcc
        by_cases hkn : k < n
        · have HKN := Lib.hid hkn
          rw [decide_eq_true hkn]
          clear hkn hk
          go_wp2_with fail
          go_roundw
          case rel => exact ⟨_, k + 1, rfl, HKN.out, by go_num, HC13.out⟩
          case measure => first | exact meas_two HKN.out | (rw [hk64]; exact meas_two HKN.out)
        · rw [decide_eq_false hkn]
          obtain rfl : n = k := by omega
          have HSIc := Lib.hid (HSI11.out.nil HC13.out)
          have HTKc := Lib.hid (HTK11.out.nil HC13.out)
          have HCc := Lib.hid (HC11.out.trans HC13.out (fun _ h => h.elim))
          have HNL : Hid ((L.take n).length = n) := List.length_take.trans (Nat.min_eq_left HN.out)
          obtain ⟨szn, hszn⟩ : ∃ szn, (batBs (L.take n)).length = szn := ⟨_, rfl⟩
          have hsW : szn ≤ 60000 := by
            rw [← hszn]
            have h1 := batBs_take_le L n
            rw [HWE.out] at h1
            have h2 := HWL.out
            omega
          have HSZN := Lib.hid hszn
          have HSW := Lib.hid hsW
          have HRDS : Hid (Calls Tryz.prog 34 #[.pointer (some ⟨t, 0, none⟩), .int .i64 (bn : Nat), .int .i64 1048576] wc fun e w' => ∃ u, e = .returned (.tuple #[u, .nilIface]) ∧ ReadAt wc.heap.size w' u (L.take n) ∧ Chg Nil wc w') := HSIc.out.reads (by have := HFL.out; omega) (by rw [hszn]; omega)
          clear hkn hk hszn hsW
          go_wp2_with fail
          refine HRDS.out.mono ?_
          rintro e w14 ⟨gv, rfl, hra, hc14⟩
          obtain ⟨gms, hgo, hgm, hgb, _⟩ := hra
          have hgl : gms.length = n := by have h1 := congrArg List.length hgm; rw [List.length_map, HNL.out] at h1; exact h1
          obtain ⟨ga, gcap, hgv, hgc⟩ := hgo.at
          rw [hgl] at hgv
          subst hgv
          have HGC := Lib.hid hgc
          have HGM := Lib.hid hgm
          have HGB := Lib.hid hgb
          have HGL := Lib.hid hgl
          have HC14 := Lib.hid (HC13.out.trans hc14 (fun _ h => h.elim))
          have HTK14 := Lib.hid (HTKc.out.nil hc14)
          have HSI14 := Lib.hid (HSIc.out.nil hc14)
          have HCC14 := Lib.hid (HCc.out.trans hc14 (fun _ h => h.elim))
          have HBT : Hid (∀ w', Chg Nil w14 w' → Calls Tryz.prog 20 #[.pointer (some ⟨t, 0, none⟩)] w' fun e w'' => e = .returned (.int .i64 (n : Nat)) ∧ Chg Nil w' w'') := fun w' hw => by
            have h1 := (HSI14.out.nil hw).batches
            rw [HNL.out] at h1
            exact h1
          have HDS : Hid (∀ w', Chg Nil w14 w' → Calls Tryz.prog 23 #[.pointer (some ⟨p, 0, none⟩), .string ⟨fn.toArray⟩] w' fun e w'' => e = .returned (.int .i64 (szn : Nat)) ∧ Chg Nil w' w'') := fun w' hw => by
            have h1 := (HSI14.out.nil hw).dk.size (by have := HFL.out; omega)
            rw [HSZN.out] at h1
            exact h1
          have z1 := HC14.out.cell (HCS.out n (by have h1 := HN.out; have h2 := HLL.out; omega)) (fun h => h)
          rw [HSZN.out] at z1
          have hcm : wrap64 ((c : Int) + (more.length : Int)) = (c : Int) + (more.length : Int) := by have h1 := HCL.out; have h2 := HWL.out; have h3 := HML.out; unfold wrap64; omega
          have hcs2 : wrap64 ((c : Int) + (more.length : Int) - (szn : Int)) = (jl : Int) := by
            have h0 := HJL.out
            rw [HSZN.out] at h0
            have h1 := HCL.out
            have h2 := HWL.out
            have h3 := HML.out
            have h4 := HSW.out
            unfold wrap64
            omega
          have hk0 : (0 : Int) ≤ (n : Int) := by omega
          have hk1 : (n : Int) < (ms.length : Int) + 1 := by have h1 := HN.out; have h2 := HLL.out; omega
          have e1 : ((n : Int) == (n : Int)) = true := beq_self_eq_true _
          have e2 : ((jl : Int) == (jl : Int)) = true := beq_self_eq_true _
          have e3 : ((szn : Int) == (szn : Int)) = true := beq_self_eq_true _
          clear hgo hgm hgb hgl hgc hc14 hk64
          go_upto_region 32 with fail
          refine wp_region_mono _ (Chg Nil) (by as_aux_lemma => kernel_rfl) (fun _ _ _ h k => h.trans k (fun _ h => h.elim)) [[], [0], [1], [2], [2, 3], [2], [2, 4, 5], [2, 6], [7], [8], [8, 9], [8], [8, 10, 11], [8, 12], [13], [14], [14], [14], [14, 17], [14, 16, 18], [14], [14], [14, 20, 21], [14, 22], [14, 19, 23], [14, 15, 24], [14, 25], [26], [27], [27], [27, 28, 29], [27], [27], [27, 31, 32], [27, 33], [27, 30, 34], [27, 35]] rfl (by as_aux_lemma => kernel_rfl) (Chg.refl _ _).drew ?_
          ((with_reducible apply Walk.eq); case h => (intro w2 hw2 N hN; simp only [depsOf, List.filterMap_nil, List.filterMap_cons, List.getElem?_toArray, List.getElem?_cons_zero, List.getElem?_cons_succ, Option.bind_some, List.nil_append, List.cons_append, Ob]; go_simp; (try go_bits); with_reducible exact hN _ (Chg.refl _ _)))
          ((with_reducible apply Walk.eq); case h => (intro w2 hw2 N hN; simp only [depsOf, List.filterMap_nil, List.filterMap_cons, List.getElem?_toArray, List.getElem?_cons_zero, List.getElem?_cons_succ, Option.bind_some, List.nil_append, List.cons_append, Ob]; go_simp; (try go_bits); with_reducible exact hN _ (Chg.refl _ _)))
          ((with_reducible apply Walk.eq); case h => (intro w2 hw2 N hN; simp only [depsOf, List.filterMap_nil, List.filterMap_cons, List.getElem?_toArray, List.getElem?_cons_zero, List.getElem?_cons_succ, Option.bind_some, List.nil_append, List.cons_append, Ob]; go_simp; (try go_bits); with_reducible exact hN _ (Chg.refl _ _)))
          ((with_reducible apply Walk.eq); case h => (intro w2 hw2 N hN; simp only [depsOf, List.filterMap_nil, List.filterMap_cons, List.getElem?_toArray, List.getElem?_cons_zero, List.getElem?_cons_succ, Option.bind_some, List.nil_append, List.cons_append, Ob]; go_simp; (try go_bits); with_reducible exact hN _ (Chg.refl _ _)))
          (with_reducible apply Walk.eq); case h =>
            intro w2 hw2 N hN
            simp only [depsOf, List.filterMap_nil, List.filterMap_cons, List.getElem?_toArray, List.getElem?_cons_zero, List.getElem?_cons_succ, Option.bind_some, List.nil_append, List.cons_append, Ob]
            go_simp
            refine (HBT.out w2 hw2).mono ?_
            rintro e w5 ⟨rfl, hc5⟩
            exact ⟨_, rfl, hN _ hc5⟩
          ((with_reducible apply Walk.eq); case h => (intro w2 hw2 N hN; simp only [depsOf, List.filterMap_nil, List.filterMap_cons, List.getElem?_toArray, List.getElem?_cons_zero, List.getElem?_cons_succ, Option.bind_some, List.nil_append, List.cons_append, Ob]; go_simp; (try go_bits); with_reducible exact hN _ (Chg.refl _ _)))
          ((with_reducible apply Walk.eq); case h => (intro w2 hw2 N hN; simp only [depsOf, List.filterMap_nil, List.filterMap_cons, List.getElem?_toArray, List.getElem?_cons_zero, List.getElem?_cons_succ, Option.bind_some, List.nil_append, List.cons_append, Ob]; go_simp; (try go_bits); with_reducible exact hN _ (Chg.refl _ _)))
          ((with_reducible apply Walk.eq); case h => (intro w2 hw2 N hN; simp only [depsOf, List.filterMap_nil, List.filterMap_cons, List.getElem?_toArray, List.getElem?_cons_zero, List.getElem?_cons_succ, Option.bind_some, List.nil_append, List.cons_append, Ob]; go_simp; (try go_bits); with_reducible exact hN _ (Chg.refl _ _)))
          ((with_reducible apply Walk.eq); case h => (intro w2 hw2 N hN; simp only [depsOf, List.filterMap_nil, List.filterMap_cons, List.getElem?_toArray, List.getElem?_cons_zero, List.getElem?_cons_succ, Option.bind_some, List.nil_append, List.cons_append, Ob]; go_simp; (try go_bits); with_reducible exact hN _ (Chg.refl _ _)))
          ((with_reducible apply Walk.eq); case h => (intro w2 hw2 N hN; simp only [depsOf, List.filterMap_nil, List.filterMap_cons, List.getElem?_toArray, List.getElem?_cons_zero, List.getElem?_cons_succ, Option.bind_some, List.nil_append, List.cons_append, Ob]; go_simp; (try go_bits); with_reducible exact hN _ (Chg.refl _ _)))
          ((with_reducible apply Walk.eq); case h => (intro w2 hw2 N hN; simp only [depsOf, List.filterMap_nil, List.filterMap_cons, List.getElem?_toArray, List.getElem?_cons_zero, List.getElem?_cons_succ, Option.bind_some, List.nil_append, List.cons_append, Ob]; go_simp; (try go_bits); with_reducible exact hN _ (Chg.refl _ _)))
          ((with_reducible apply Walk.eq); case h => (intro w2 hw2 N hN; simp only [depsOf, List.filterMap_nil, List.filterMap_cons, List.getElem?_toArray, List.getElem?_cons_zero, List.getElem?_cons_succ, Option.bind_some, List.nil_append, List.cons_append, Ob]; go_simp; (try go_bits); with_reducible exact hN _ (Chg.refl _ _)))
          ((with_reducible apply Walk.eq); case h => (intro w2 hw2 N hN; simp only [depsOf, List.filterMap_nil, List.filterMap_cons, List.getElem?_toArray, List.getElem?_cons_zero, List.getElem?_cons_succ, Option.bind_some, List.nil_append, List.cons_append, Ob]; go_simp; (try go_bits); with_reducible exact hN _ (Chg.refl _ _)))
          ((with_reducible apply Walk.eq); case h => (intro w2 hw2 N hN; simp only [depsOf, List.filterMap_nil, List.filterMap_cons, List.getElem?_toArray, List.getElem?_cons_zero, List.getElem?_cons_succ, Option.bind_some, List.nil_append, List.cons_append, Ob]; go_simp; (try go_bits); with_reducible exact hN _ (Chg.refl _ _)))
          ((with_reducible apply Walk.eq); case h => (intro w2 hw2 N hN; simp only [depsOf, List.filterMap_nil, List.filterMap_cons, List.getElem?_toArray, List.getElem?_cons_zero, List.getElem?_cons_succ, Option.bind_some, List.nil_append, List.cons_append, Ob]; go_simp; (try go_bits); with_reducible exact hN _ (Chg.refl _ _)))
          ((with_reducible apply Walk.eq); case h => (intro w2 hw2 N hN; simp only [depsOf, List.filterMap_nil, List.filterMap_cons, List.getElem?_toArray, List.getElem?_cons_zero, List.getElem?_cons_succ, Option.bind_some, List.nil_append, List.cons_append, Ob]; go_simp; (try go_bits); with_reducible exact hN _ (Chg.refl _ _)))
          ((with_reducible apply Walk.eq); case h => (intro w2 hw2 N hN; simp only [depsOf, List.filterMap_nil, List.filterMap_cons, List.getElem?_toArray, List.getElem?_cons_zero, List.getElem?_cons_succ, Option.bind_some, List.nil_append, List.cons_append, Ob]; go_simp; (try go_bits); with_reducible exact hN _ (Chg.refl _ _)))
          ((with_reducible apply Walk.eq); case h => (intro w2 hw2 N hN; simp only [depsOf, List.filterMap_nil, List.filterMap_cons, List.getElem?_toArray, List.getElem?_cons_zero, List.getElem?_cons_succ, Option.bind_some, List.nil_append, List.cons_append, Ob]; go_simp; (try go_bits); with_reducible exact hN _ (Chg.refl _ _)))
          ((with_reducible apply Walk.eq); case h => (intro w2 hw2 N hN; simp only [depsOf, List.filterMap_nil, List.filterMap_cons, List.getElem?_toArray, List.getElem?_cons_zero, List.getElem?_cons_succ, Option.bind_some, List.nil_append, List.cons_append, Ob]; go_simp; (try go_bits); with_reducible exact hN _ (Chg.refl _ _)))
          ((with_reducible apply Walk.eq); case h => (intro w2 hw2 N hN; simp only [depsOf, List.filterMap_nil, List.filterMap_cons, List.getElem?_toArray, List.getElem?_cons_zero, List.getElem?_cons_succ, Option.bind_some, List.nil_append, List.cons_append, Ob]; go_simp; (try go_bits); with_reducible exact hN _ (Chg.refl _ _)))
          ((with_reducible apply Walk.eq); case h => (intro w2 hw2 N hN; simp only [depsOf, List.filterMap_nil, List.filterMap_cons, List.getElem?_toArray, List.getElem?_cons_zero, List.getElem?_cons_succ, Option.bind_some, List.nil_append, List.cons_append, Ob]; go_simp; (try go_bits); with_reducible exact hN _ (Chg.refl _ _)))
          ((with_reducible apply Walk.eq); case h => (intro w2 hw2 N hN; simp only [depsOf, List.filterMap_nil, List.filterMap_cons, List.getElem?_toArray, List.getElem?_cons_zero, List.getElem?_cons_succ, Option.bind_some, List.nil_append, List.cons_append, Ob]; go_simp; (try go_bits); with_reducible exact hN _ (Chg.refl _ _)))
          ((with_reducible apply Walk.eq); case h => (intro w2 hw2 N hN; simp only [depsOf, List.filterMap_nil, List.filterMap_cons, List.getElem?_toArray, List.getElem?_cons_zero, List.getElem?_cons_succ, Option.bind_some, List.nil_append, List.cons_append, Ob]; go_simp; (try go_bits); with_reducible exact hN _ (Chg.refl _ _)))
          ((with_reducible apply Walk.eq); case h => (intro w2 hw2 N hN; have hq := hw2.cell z1 (fun h => h); simp only [depsOf, List.filterMap_nil, List.filterMap_cons, List.getElem?_toArray, List.getElem?_cons_zero, List.getElem?_cons_succ, Option.bind_some, List.nil_append, List.cons_append, Ob]; go_simp; with_reducible exact hN _ (Chg.refl _ _)))
          ((with_reducible apply Walk.eq); case h => (intro w2 hw2 N hN; simp only [depsOf, List.filterMap_nil, List.filterMap_cons, List.getElem?_toArray, List.getElem?_cons_zero, List.getElem?_cons_succ, Option.bind_some, List.nil_append, List.cons_append, Ob]; go_simp; (try go_bits); with_reducible exact hN _ (Chg.refl _ _)))
          ((with_reducible apply Walk.eq); case h => (intro w2 hw2 N hN; simp only [depsOf, List.filterMap_nil, List.filterMap_cons, List.getElem?_toArray, List.getElem?_cons_zero, List.getElem?_cons_succ, Option.bind_some, List.nil_append, List.cons_append, Ob]; go_simp; (try go_bits); with_reducible exact hN _ (Chg.refl _ _)))
          ((with_reducible apply Walk.eq); case h => (intro w2 hw2 N hN; simp only [depsOf, List.filterMap_nil, List.filterMap_cons, List.getElem?_toArray, List.getElem?_cons_zero, List.getElem?_cons_succ, Option.bind_some, List.nil_append, List.cons_append, Ob]; go_simp; (try go_bits); with_reducible exact hN _ (Chg.refl _ _)))
          ((with_reducible apply Walk.eq); case h => (intro w2 hw2 N hN; simp only [depsOf, List.filterMap_nil, List.filterMap_cons, List.getElem?_toArray, List.getElem?_cons_zero, List.getElem?_cons_succ, Option.bind_some, List.nil_append, List.cons_append, Ob]; go_simp; (try go_bits); with_reducible exact hN _ (Chg.refl _ _)))
          ((with_reducible apply Walk.eq); case h => (intro w2 hw2 N hN; simp only [depsOf, List.filterMap_nil, List.filterMap_cons, List.getElem?_toArray, List.getElem?_cons_zero, List.getElem?_cons_succ, Option.bind_some, List.nil_append, List.cons_append, Ob]; go_simp; (try go_bits); with_reducible exact hN _ (Chg.refl _ _)))
          ((with_reducible apply Walk.eq); case h => (intro w2 hw2 N hN; simp only [depsOf, List.filterMap_nil, List.filterMap_cons, List.getElem?_toArray, List.getElem?_cons_zero, List.getElem?_cons_succ, Option.bind_some, List.nil_append, List.cons_append, Ob]; go_simp; (try go_bits); with_reducible exact hN _ (Chg.refl _ _)))
          (with_reducible apply Walk.eq); case h =>
            intro w2 hw2 N hN
            simp only [depsOf, List.filterMap_nil, List.filterMap_cons, List.getElem?_toArray, List.getElem?_cons_zero, List.getElem?_cons_succ, Option.bind_some, List.nil_append, List.cons_append, Ob]
            go_simp
            refine (HDS.out w2 hw2).mono ?_
            rintro e w5 ⟨rfl, hc5⟩
            exact ⟨_, rfl, hN _ hc5⟩
          ((with_reducible apply Walk.eq); case h => (intro w2 hw2 N hN; simp only [depsOf, List.filterMap_nil, List.filterMap_cons, List.getElem?_toArray, List.getElem?_cons_zero, List.getElem?_cons_succ, Option.bind_some, List.nil_append, List.cons_append, Ob]; go_simp; (try go_bits); with_reducible exact hN _ (Chg.refl _ _)))
          ((with_reducible apply Walk.eq); case h => (intro w2 hw2 N hN; simp only [depsOf, List.filterMap_nil, List.filterMap_cons, List.getElem?_toArray, List.getElem?_cons_zero, List.getElem?_cons_succ, Option.bind_some, List.nil_append, List.cons_append, Ob]; go_simp; (try go_bits); with_reducible exact hN _ (Chg.refl _ _)))
          ((with_reducible apply Walk.eq); case h => (intro w2 hw2 N hN; simp only [depsOf, List.filterMap_nil, List.filterMap_cons, List.getElem?_toArray, List.getElem?_cons_zero, List.getElem?_cons_succ, Option.bind_some, List.nil_append, List.cons_append, Ob]; go_simp; (try go_bits); with_reducible exact hN _ (Chg.refl _ _)))
          ((with_reducible apply Walk.eq); case h => (intro w2 hw2 N hN; have hq := hw2.cell z1 (fun h => h); simp only [depsOf, List.filterMap_nil, List.filterMap_cons, List.getElem?_toArray, List.getElem?_cons_zero, List.getElem?_cons_succ, Option.bind_some, List.nil_append, List.cons_append, Ob]; go_simp; with_reducible exact hN _ (Chg.refl _ _)))
          ((with_reducible apply Walk.eq); case h => (intro w2 hw2 N hN; simp only [depsOf, List.filterMap_nil, List.filterMap_cons, List.getElem?_toArray, List.getElem?_cons_zero, List.getElem?_cons_succ, Option.bind_some, List.nil_append, List.cons_append, Ob]; go_simp; (try go_bits); with_reducible exact hN _ (Chg.refl _ _)))
          ((with_reducible apply Walk.eq); case h => (intro w2 hw2 N hN; simp only [depsOf, List.filterMap_nil, List.filterMap_cons, List.getElem?_toArray, List.getElem?_cons_zero, List.getElem?_cons_succ, Option.bind_some, List.nil_append, List.cons_append, Ob]; go_simp; (try go_bits); with_reducible exact hN _ (Chg.refl _ _)))
          intro w15 hw15
          simp only [List.nil_append, List.cons_append, Fin]
          have HW15 := Lib.hid hw15
          clear hw15 z1 hcm hcs2 e1 e2 e3 hk0 hk1
          go_simp
          go_wp2_with fail
          go_loopw [23] (fun iv wr => ∃ (wq : World) (k : Nat), wq = wr ∧ k ≤ n ∧ iv = .int .i64 k ∧ Chg Nil w14 wr) (fun iv _ => n - (RowKit.intOf iv).toNat)
          case atStart => exact ⟨_, 0, rfl, Nat.zero_le _, rfl, HW15.out⟩
          case round =>
            obtain ⟨w16, k, rfl, hk, rfl, hc16⟩ := hrel
            have HC16 := Lib.hid hc16
            clear hc16
            by_cases hkn : k < n
            · have hkm : k < ms.length := by have h1 := HN.out; have h2 := HLL.out; omega
              have hkg : k < gms.length := by rw [HGL.out]; exact hkn
              have hkni : (k : Int) < (n : Int) := by omega
              have hkmi : (k : Int) < (ms.length : Int) := by omega
              have hk0 : (0 : Int) ≤ (k : Int) := by omega
              have hk64 : wrap64 ((k : Int) + 1) = (k : Int) + 1 := by have h1 := HN.out; have h2 := HLL.out; have h3 := HMSL.out; unfold wrap64; omega
              obtain ⟨gg, rfl, hg1⟩ := HGC.out k hkg
              obtain ⟨a2, c2, hav, hac⟩ := HTK14.out.al.at
              obtain ⟨ea, _, _⟩ := Value.slice.inj hav
              subst ea
              obtain ⟨ag, rfl, hg2⟩ := hac k hkm
              have hr2 := (HTK14.out.rcs _ (List.getElem_mem hkm)).1.at
              have hr1 := (HGB.out _ (List.getElem_mem hkg)).1
              have hbe : gms[k].b = ms[k].b := by
                have h1 : (gms.map Bm.b)[k]? = (L.take n)[k]? := by rw [HGM.out]
                rw [List.getElem?_map, List.getElem?_eq_getElem hkg, List.getElem?_take, if_pos hkn, ← HLE.out, List.getElem?_map, List.getElem?_eq_getElem hkm] at h1
                exact Option.some.inj h1
              have hfew : ms[k].b.rs.length ≤ 50 := (HNU.out.1 _ (by rw [← HLE.out]; exact List.mem_map.2 ⟨_, List.getElem_mem hkm, rfl⟩)).nums.few
              obtain ⟨m1, hm1⟩ : ∃ m1, m1 = gms[k] := ⟨_, rfl⟩
              obtain ⟨m2, hm2⟩ : ∃ m2, m2 = ms[k] := ⟨_, rfl⟩
              rw [← hm1] at hg1 hr1 hbe
              rw [← hm2] at hg2 hr2 hbe hfew
              clear hm1 hm2 hav hac
              obtain ⟨⟨b1, e1, r1⟩, ra1, rc1⟩ := m1
              obtain ⟨⟨b2, e2, r2⟩, ra2, rc2⟩ := m2
              obtain ⟨rfl, rfl, rfl⟩ := Bt.mk.inj hbe
              have y0 := HC16.out.cell (hg1 0 _ rfl) (fun h => h)
              have y2 := HC16.out.cell (hg1 2 _ rfl) (fun h => h)
              have v0 := HC16.out.cell (hg2 0 _ rfl) (fun h => h)
              have v2 := HC16.out.cell (hg2 2 _ rfl) (fun h => h)
              rw [Nat.add_zero] at y0 v0
              simp only at y0 y2 v0 v2
              have HR1 := Lib.hid hr1
              have HR2 := Lib.hid hr2
              have HFEW := Lib.hid hfew
              have HSAME : Hid (∀ w', Chg Nil w16 w' → Calls Tryz.prog 35 #[.slice ra1 r1.length rc1, .slice ra2 r1.length rc2] w' fun e w'' => e = .returned (.bool true) ∧ Chg Nil w' w'') := fun w' hw =>
                same_any ra1 ra2 r1 rc1 rc2 w' (by have h1 : r1.length ≤ 50 := HFEW.out; unfold maxLen; omega) (RecsAt.chg (HC16.out.trans hw (fun _ h => h.elim)) HR1.out (fun _ _ h => h)) (RecsAt.chg (HC16.out.trans hw (fun _ h => h.elim)) HR2.out (fun _ _ h => h))
              have HKN := Lib.hid hkn
              have e5 : (b1 == b1) = true := beq_self_eq_true _
              clear hg1 hg2 hr1 hr2 hbe hfew hkm hkg hkn hk
              go_upto_region 37 with fail
              refine wp_region_mono _ (Chg Nil) (by as_aux_lemma => kernel_rfl) (fun _ _ _ h k => h.trans k (fun _ h => h.elim)) [[], [], [0, 1], [2], [3], [], [], [5, 6], [7], [8], [4, 9], [10], [11], [11], [11, 12, 13], [11, 14], [11, 15], [11], [11], [11, 17, 18], [11, 19], [11, 20], [11, 16, 21], [11, 22], [11, 23]] rfl (by as_aux_lemma => kernel_rfl) (Chg.refl _ _).drew ?_
              ((with_reducible apply Walk.eq); case h => (intro w2 hw2 N hN; simp only [depsOf, List.filterMap_nil, List.filterMap_cons, List.getElem?_toArray, List.getElem?_cons_zero, List.getElem?_cons_succ, Option.bind_some, List.nil_append, List.cons_append, Ob]; go_simp; (try go_bits); with_reducible exact hN _ (Chg.refl _ _)))
              ((with_reducible apply Walk.eq); case h => (intro w2 hw2 N hN; simp only [depsOf, List.filterMap_nil, List.filterMap_cons, List.getElem?_toArray, List.getElem?_cons_zero, List.getElem?_cons_succ, Option.bind_some, List.nil_append, List.cons_append, Ob]; go_simp; (try go_bits); with_reducible exact hN _ (Chg.refl _ _)))
              ((with_reducible apply Walk.eq); case h => (intro w2 hw2 N hN; simp only [depsOf, List.filterMap_nil, List.filterMap_cons, List.getElem?_toArray, List.getElem?_cons_zero, List.getElem?_cons_succ, Option.bind_some, List.nil_append, List.cons_append, Ob]; go_simp; (try go_bits); with_reducible exact hN _ (Chg.refl _ _)))
              ((with_reducible apply Walk.eq); case h => (intro w2 hw2 N hN; simp only [depsOf, List.filterMap_nil, List.filterMap_cons, List.getElem?_toArray, List.getElem?_cons_zero, List.getElem?_cons_succ, Option.bind_some, List.nil_append, List.cons_append, Ob]; go_simp; (try go_bits); with_reducible exact hN _ (Chg.refl _ _)))
              ((with_reducible apply Walk.eq); case h => (intro w2 hw2 N hN; have hq := hw2.cell y0 (fun h => h); simp only [depsOf, List.filterMap_nil, List.filterMap_cons, List.getElem?_toArray, List.getElem?_cons_zero, List.getElem?_cons_succ, Option.bind_some, List.nil_append, List.cons_append, Ob]; go_simp; with_reducible exact hN _ (Chg.refl _ _)))
              ((with_reducible apply Walk.eq); case h => (intro w2 hw2 N hN; simp only [depsOf, List.filterMap_nil, List.filterMap_cons, List.getElem?_toArray, List.getElem?_cons_zero, List.getElem?_cons_succ, Option.bind_some, List.nil_append, List.cons_append, Ob]; go_simp; (try go_bits); with_reducible exact hN _ (Chg.refl _ _)))
              ((with_reducible apply Walk.eq); case h => (intro w2 hw2 N hN; simp only [depsOf, List.filterMap_nil, List.filterMap_cons, List.getElem?_toArray, List.getElem?_cons_zero, List.getElem?_cons_succ, Option.bind_some, List.nil_append, List.cons_append, Ob]; go_simp; (try go_bits); with_reducible exact hN _ (Chg.refl _ _)))
              ((with_reducible apply Walk.eq); case h => (intro w2 hw2 N hN; simp only [depsOf, List.filterMap_nil, List.filterMap_cons, List.getElem?_toArray, List.getElem?_cons_zero, List.getElem?_cons_succ, Option.bind_some, List.nil_append, List.cons_append, Ob]; go_simp; (try go_bits); with_reducible exact hN _ (Chg.refl _ _)))
              ((with_reducible apply Walk.eq); case h => (intro w2 hw2 N hN; simp only [depsOf, List.filterMap_nil, List.filterMap_cons, List.getElem?_toArray, List.getElem?_cons_zero, List.getElem?_cons_succ, Option.bind_some, List.nil_append, List.cons_append, Ob]; go_simp; (try go_bits); with_reducible exact hN _ (Chg.refl _ _)))
              ((with_reducible apply Walk.eq); case h => (intro w2 hw2 N hN; have hq := hw2.cell v0 (fun h => h); simp only [depsOf, List.filterMap_nil, List.filterMap_cons, List.getElem?_toArray, List.getElem?_cons_zero, List.getElem?_cons_succ, Option.bind_some, List.nil_append, List.cons_append, Ob]; go_simp; with_reducible exact hN _ (Chg.refl _ _)))
              ((with_reducible apply Walk.eq); case h => (intro w2 hw2 N hN; simp only [depsOf, List.filterMap_nil, List.filterMap_cons, List.getElem?_toArray, List.getElem?_cons_zero, List.getElem?_cons_succ, Option.bind_some, List.nil_append, List.cons_append, Ob]; go_simp; (try go_bits); with_reducible exact hN _ (Chg.refl _ _)))
              ((with_reducible apply Walk.eq); case h => (intro w2 hw2 N hN; simp only [depsOf, List.filterMap_nil, List.filterMap_cons, List.getElem?_toArray, List.getElem?_cons_zero, List.getElem?_cons_succ, Option.bind_some, List.nil_append, List.cons_append, Ob]; go_simp; (try go_bits); with_reducible exact hN _ (Chg.refl _ _)))
              ((with_reducible apply Walk.eq); case h => (intro w2 hw2 N hN; simp only [depsOf, List.filterMap_nil, List.filterMap_cons, List.getElem?_toArray, List.getElem?_cons_zero, List.getElem?_cons_succ, Option.bind_some, List.nil_append, List.cons_append, Ob]; go_simp; (try go_bits); with_reducible exact hN _ (Chg.refl _ _)))
              ((with_reducible apply Walk.eq); case h => (intro w2 hw2 N hN; simp only [depsOf, List.filterMap_nil, List.filterMap_cons, List.getElem?_toArray, List.getElem?_cons_zero, List.getElem?_cons_succ, Option.bind_some, List.nil_append, List.cons_append, Ob]; go_simp; (try go_bits); with_reducible exact hN _ (Chg.refl _ _)))
              ((with_reducible apply Walk.eq); case h => (intro w2 hw2 N hN; simp only [depsOf, List.filterMap_nil, List.filterMap_cons, List.getElem?_toArray, List.getElem?_cons_zero, List.getElem?_cons_succ, Option.bind_some, List.nil_append, List.cons_append, Ob]; go_simp; (try go_bits); with_reducible exact hN _ (Chg.refl _ _)))
              ((with_reducible apply Walk.eq); case h => (intro w2 hw2 N hN; simp only [depsOf, List.filterMap_nil, List.filterMap_cons, List.getElem?_toArray, List.getElem?_cons_zero, List.getElem?_cons_succ, Option.bind_some, List.nil_append, List.cons_append, Ob]; go_simp; (try go_bits); with_reducible exact hN _ (Chg.refl _ _)))
              ((with_reducible apply Walk.eq); case h => (intro w2 hw2 N hN; have hq := hw2.cell y2 (fun h => h); simp only [depsOf, List.filterMap_nil, List.filterMap_cons, List.getElem?_toArray, List.getElem?_cons_zero, List.getElem?_cons_succ, Option.bind_some, List.nil_append, List.cons_append, Ob]; go_simp; with_reducible exact hN _ (Chg.refl _ _)))
              ((with_reducible apply Walk.eq); case h => (intro w2 hw2 N hN; simp only [depsOf, List.filterMap_nil, List.filterMap_cons, List.getElem?_toArray, List.getElem?_cons_zero, List.getElem?_cons_succ, Option.bind_some, List.nil_append, List.cons_append, Ob]; go_simp; (try go_bits); with_reducible exact hN _ (Chg.refl _ _)))
              ((with_reducible apply Walk.eq); case h => (intro w2 hw2 N hN; simp only [depsOf, List.filterMap_nil, List.filterMap_cons, List.getElem?_toArray, List.getElem?_cons_zero, List.getElem?_cons_succ, Option.bind_some, List.nil_append, List.cons_append, Ob]; go_simp; (try go_bits); with_reducible exact hN _ (Chg.refl _ _)))
              ((with_reducible apply Walk.eq); case h => (intro w2 hw2 N hN; simp only [depsOf, List.filterMap_nil, List.filterMap_cons, List.getElem?_toArray, List.getElem?_cons_zero, List.getElem?_cons_succ, Option.bind_some, List.nil_append, List.cons_append, Ob]; go_simp; (try go_bits); with_reducible exact hN _ (Chg.refl _ _)))
              ((with_reducible apply Walk.eq); case h => (intro w2 hw2 N hN; simp only [depsOf, List.filterMap_nil, List.filterMap_cons, List.getElem?_toArray, List.getElem?_cons_zero, List.getElem?_cons_succ, Option.bind_some, List.nil_append, List.cons_append, Ob]; go_simp; (try go_bits); with_reducible exact hN _ (Chg.refl _ _)))
              ((with_reducible apply Walk.eq); case h => (intro w2 hw2 N hN; have hq := hw2.cell v2 (fun h => h); simp only [depsOf, List.filterMap_nil, List.filterMap_cons, List.getElem?_toArray, List.getElem?_cons_zero, List.getElem?_cons_succ, Option.bind_some, List.nil_append, List.cons_append, Ob]; go_simp; with_reducible exact hN _ (Chg.refl _ _)))
              (with_reducible apply Walk.eq); case h =>
                intro w2 hw2 N hN
                simp only [depsOf, List.filterMap_nil, List.filterMap_cons, List.getElem?_toArray, List.getElem?_cons_zero, List.getElem?_cons_succ, Option.bind_some, List.nil_append, List.cons_append, Ob]
                go_simp
                refine (HSAME.out w2 hw2).mono ?_
                rintro e w5 ⟨rfl, hc5⟩
                exact ⟨_, rfl, hN _ hc5⟩
              ((with_reducible apply Walk.eq); case h => (intro w2 hw2 N hN; simp only [depsOf, List.filterMap_nil, List.filterMap_cons, List.getElem?_toArray, List.getElem?_cons_zero, List.getElem?_cons_succ, Option.bind_some, List.nil_append, List.cons_append, Ob]; go_simp; (try go_bits); with_reducible exact hN _ (Chg.refl _ _)))
              ((with_reducible apply Walk.eq); case h => (intro w2 hw2 N hN; simp only [depsOf, List.filterMap_nil, List.filterMap_cons, List.getElem?_toArray, List.getElem?_cons_zero, List.getElem?_cons_succ, Option.bind_some, List.nil_append, List.cons_append, Ob]; go_simp; (try go_bits); with_reducible exact hN _ (Chg.refl _ _)))
              intro w17 hw17
              simp only [List.nil_append, List.cons_append, Fin]
              have HW17 := Lib.hid hw17
              clear hw17 y0 y2 v0 v2 e5
              go_simp
              go_wp2_with fail
              go_roundw
              case rel =>
                first
                  | exact ⟨_, k + 1, rfl, HKN.out, by go_num, HC16.out.trans HW17.out (fun _ h => h.elim)⟩
                  | exact ⟨k + 1, HKN.out, by omega, HC16.out.trans HW17.out (fun _ h => h.elim)⟩
                  | (refine ⟨?_, ?_, ?_⟩ <;> first | exact HKN.out | exact HC16.out.trans HW17.out (fun _ h => h.elim) | rfl | trivial | go_num)
              case measure => first | exact meas_two HKN.out | (rw [hk64]; exact meas_two HKN.out)
            · have hkni : ¬ (k : Int) < (n : Int) := by omega
              have HSI16 := Lib.hid (HSI14.out.nil HC16.out)
              have HCC16 := Lib.hid (HCC14.out.trans HC16.out (fun _ h => h.elim))
              have HCA16 := Lib.hid (HC14.out.trans HC16.out (fun _ h => h.elim))
              obtain ⟨nx, hnx⟩ : ∃ nx, lastEnd bn (L.take n) = nx := ⟨_, rfl⟩
              have HNE := Lib.hid hnx
              have HNB : Hid (0 ≤ nx ∧ nx ≤ 1099511627000) := by
                have h1 := lastEnd_take HNU.out.1 HNU.out.2 n
                rw [hnx] at h1
                have h2 := HLST.out
                have h3 := HBN.out
                unfold Hid
                omega
              have HNX : Hid (Calls Tryz.prog 18 #[.pointer (some ⟨t, 0, none⟩)] w16 fun e w' => e = .returned (.int .i64 nx) ∧ Chg Nil w16 w') := by
                have h1 := HSI16.out.next (by rw [HNL.out]; have h1 := HN.out; have h2 := HLL.out; have h3 := HMSL.out; omega)
                rw [hnx] at h1
                exact h1
              clear hnx hkn hk
              go_wp2_with fail
              refine HNX.out.mono ?_
              rintro e w17 ⟨rfl, hc17⟩
              have HCA17 := Lib.hid (HCA16.out.trans hc17 (fun _ h => h.elim))
              have HCC17 := Lib.hid (HCC16.out.trans hc17 (fun _ h => h.elim))
              have HBX := Lib.hid (recsAt_box (rs := [⟨0, 0, false, ⟨#[]⟩, false, ⟨#[120]⟩⟩]) (Box.new w17 (([⟨0, 0, false, ⟨#[]⟩, false, ⟨#[120]⟩⟩] : List Rec).flatMap Rec.cells) 55))
              have HAL := Lib.hid ((Chg.refl Nil w17).alloc (.cells (([⟨0, 0, false, ⟨#[]⟩, false, ⟨#[120]⟩⟩] : List Rec).flatMap Rec.cells).toArray 55))
              clear hc17 HNX
              go_wp2_with fail
              refine (batch_new nx (some ⟨w17.heap.size, 0, none⟩) [⟨0, 0, false, ⟨#[]⟩, false, ⟨#[120]⟩⟩] 1 _ ⟨HNB.out.1, by have := HNB.out.2; omega⟩ (by decide) HBX.out).mono ?_
              rintro e w18 ⟨hc18, u, rfl, hown, hnew⟩
              have hc18' : Chg Nil w17 w18 := HAL.out.trans hc18 (fun _ h => h.elim)
              have HCA18 := Lib.hid (HCA17.out.trans hc18' (fun _ h => h.elim))
              have HCC18 := Lib.hid (HCC17.out.trans hc18' (fun _ h => h.elim))
              have hz18 : w11.heap.size ≤ w17.heap.size := HCA17.out.size
              have hzA : w17.heap.size ≤ (w17.alloc (.cells (([⟨0, 0, false, ⟨#[]⟩, false, ⟨#[120]⟩⟩] : List Rec).flatMap Rec.cells).toArray 55)).heap.size := HAL.out.size
              have hform := hown.form
              have HAD : Hid (Calls Tryz.prog 12 #[.pointer (some ⟨t, 0, none⟩), .agg #[.int .i64 nx, .int .i64 (nx + (([⟨0, 0, false, ⟨#[]⟩, false, ⟨#[120]⟩⟩] : List Rec).length : Nat)), u]] w18 fun e w' => e = .returned .nilIface ∧ Chg Nil w w') := by
                have hsg := HSI11.out.grow (HCA18.out.weak fun _ h => h.elim)
                have h1 := hsg.add (by have := HFL.out; omega) (by rw [HNL.out]; have h1 := HN.out; have h2 := HLL.out; have h3 := HMSL.out; omega) (by omega) (by rw [HNE.out]; have := HNB.out.2; omega) u [⟨0, 0, false, ⟨#[]⟩, false, ⟨#[120]⟩⟩] (by rw [HNE.out]; exact hown) (fun k hk => .inr ⟨Nat.le_trans hz18 (Nat.le_trans hzA (hnew k hk)), ownsRow_lt hown k hk⟩) (by decide) (fun r hr => by
                  rw [List.mem_singleton.1 hr]
                  exact ⟨by decide, by decide, Nat.zero_le _, show 1 ≤ maxLen by unfold maxLen; omega⟩)
                rw [HNE.out, last_err HNB.out.1 HNB.out.2, ← hform] at h1
                refine h1.mono ?_
                rintro e w' ⟨he, _, _, h3⟩
                exact ⟨he, HCC18.out.trans h3 (fun k hk => .inr (Nat.le_of_not_lt fun hl => hk (.inl (HTK11.out.b0 k hl))))⟩
              clear hform hown hnew hc18 hc18' hz18 hzA
              go_wp2_with fail
              refine HAD.out.mono ?_
              rintro e w19 ⟨rfl, hc19⟩
              have HC19 := Lib.hid hc19
              clear hc19
              go_wp2_with fail
              go_ret
              exact ⟨rfl, HC19.out⟩
end Go.Proofs.YtmaomebnigcgeaaGreatDoor

/-
  SegmentTears, at any base, any lists of records, any cut and any bytes.
-/
set_option linter.unusedSimpArgs false
set_option linter.unusedVariables false
namespace Go.Proofs.YtmaomebnigcgeaaGreatDoor
open Go.RowKit Go.Maps

set_option maxHeartbeats 1000000 in
set_option maxRecDepth 100000 in
theorem segmentTears_any (base : Int) (xa : Option Addr) (xs : List Rl) (xc : Nat) (cut : Int) (ma : Option Addr) (more : List UInt8) (mc : Nat) (w : World) (hE : TabE w) (hok : ∀ x ∈ xs, x.Ok w) (hxa : RlsAt w xa xs) (hma : BytesAt w ma more) :
    Calls Tryz.prog 4 #[.int .i64 base, .slice xa xs.length xc, .int .i64 cut, .slice ma more.length mc] w fun e w' => e = .returned (.bool true) ∧ Chg Nil w w' := by
  by_cases h0 : base < 0
  · clear hE hok hxa hma
    go_enter Tryz.func4, Tryz.ntmps4
    go_wp2_with fail
    go_ret
    exact ⟨rfl, Chg.refl _ _⟩
  by_cases h1 : (1099511624776 : Int) < base
  · clear hE hok hxa hma
    go_enter Tryz.func4, Tryz.ntmps4
    go_wp2_with fail
    go_ret
    exact ⟨rfl, Chg.refl _ _⟩
  by_cases h2 : (10 : Int) < (xs.length : Int)
  · clear hE hok hxa hma
    go_enter Tryz.func4, Tryz.ntmps4
    go_wp2_with fail
    go_ret
    exact ⟨rfl, Chg.refl _ _⟩
  by_cases h3 : (3 : Int) < (more.length : Int)
  · clear hE hok hxa hma
    go_enter Tryz.func4, Tryz.ntmps4
    go_wp2_with fail
    go_ret
    exact ⟨rfl, Chg.refl _ _⟩
  obtain ⟨bn, rfl⟩ : ∃ bn : Nat, base = (bn : Int) := ⟨base.toNat, by omega⟩
  exact segmentTears_in bn (by omega) xa xs xc cut ma more mc w (by omega) (by omega) hok hxa hma hE
end Go.Proofs.YtmaomebnigcgeaaGreatDoor

/-
  An argument that is a slice of records, as plain records.
-/
namespace Go.Proofs.YtmaomebnigcgeaaGreatDoor
open Go.RowKit Go.ChangeShapes Go.WideShapes Go.Deep

theorem cellsR : Tryz.prog.cellsOf 55 = 6 := by kernel_rfl
theorem cellsI : Tryz.prog.cellsOf 3 = 1 := by kernel_rfl
theorem cellsB : Tryz.prog.cellsOf 4 = 1 := by kernel_rfl
theorem cellsS : Tryz.prog.cellsOf 9 = 1 := by kernel_rfl

theorem wf64 {n : Int} (h : (Lit.int .i64 n).wf = true) : -9223372036854775808 ≤ n ∧ n ≤ 9223372036854775807 := by
  simp [Lit.wf, IntKind.min, IntKind.max, IntKind.signed, IntKind.bits] at h
  omega

section
variable {H : Type} {enc : TypeId × Value → H} {w : World} {base : Nat} {spare : Nat → Bool} {held : Bool}

set_option maxRecDepth 100000 in
theorem rec_of_cells {n : Nat} {cs : List Value} {y : DataW H × List MemPlace} (h : DataW.trod enc Tryz.prog w base spare held n 55 cs = some y) : ∃ r : Rec, r.Ok ∧ cs = r.cells := by
  obtain ⟨xs, m, _, _, hl, hx, hg⟩ := DataW.trod_struct Tryz.underlying55 h
  rw [cellsR] at hl
  match cs, hl, xs, hx with
  | [c0, c1, c2, c3, c4, c5], _, [y0, y1, y2, y3, y4, y5], _ =>
    have g0 : DataW.trod enc Tryz.prog w base spare held m 3 [c0] = some y0 := by have := hg 0 _ rfl; simpa [cellsI, cellsB, cellsS] using this
    have g1 : DataW.trod enc Tryz.prog w base spare held m 3 [c1] = some y1 := by have := hg 1 _ rfl; simpa [cellsI, cellsB, cellsS] using this
    have g2 : DataW.trod enc Tryz.prog w base spare held m 4 [c2] = some y2 := by have := hg 2 _ rfl; simpa [cellsI, cellsB, cellsS] using this
    have g3 : DataW.trod enc Tryz.prog w base spare held m 9 [c3] = some y3 := by have := hg 3 _ rfl; simpa [cellsI, cellsB, cellsS] using this
    have g4 : DataW.trod enc Tryz.prog w base spare held m 4 [c4] = some y4 := by have := hg 4 _ rfl; simpa [cellsI, cellsB, cellsS] using this
    have g5 : DataW.trod enc Tryz.prog w base spare held m 9 [c5] = some y5 := by have := hg 5 _ rfl; simpa [cellsI, cellsB, cellsS] using this
    obtain ⟨o, e0, _, w0⟩ := DataW.trod_int Tryz.underlying3 g0
    obtain ⟨t, e1, _, w1⟩ := DataW.trod_int Tryz.underlying3 g1
    obtain ⟨k, e2, _⟩ := DataW.trod_bool Tryz.underlying4 g2
    obtain ⟨key, e3, _, w3⟩ := DataW.trod_string Tryz.underlying9 g3
    obtain ⟨g, e4, _⟩ := DataW.trod_bool Tryz.underlying4 g4
    obtain ⟨v, e5, _, w5⟩ := DataW.trod_string Tryz.underlying9 g5
    simp at e0 e1 e2 e3 e4 e5
    subst e0 e1 e2 e3 e4 e5
    exact ⟨⟨o, t, k, key, g, v⟩, ⟨wf64 w0, wf64 w1, w3, w5⟩, rfl⟩

theorem list_of {α : Type} {P : Nat → α → Prop} : ∀ (n : Nat), (∀ i, i < n → ∃ r, P i r) → ∃ l : List α, l.length = n ∧ ∀ i (hi : i < l.length), P i l[i]
  | 0, _ => ⟨[], rfl, fun i hi => by simp at hi⟩
  | n + 1, h => by
    obtain ⟨l, hl, hp⟩ := list_of n fun i hi => h i (by omega)
    obtain ⟨r, hr⟩ := h n (by omega)
    refine ⟨l ++ [r], by simp [hl], fun i hi => ?_⟩
    by_cases hin : i < l.length
    · rw [List.getElem_append_left hin]; exact hp i hin
    · have : i = l.length := by simp at hi; omega
      subst this
      rw [List.getElem_concat_length (by rfl)]
      rw [hl]; exact hr

theorem recs_open {fuel : Nat} {a : Option Addr} {len cap : Nat} {x : DataW H × List MemPlace} (h : DataW.trod enc Tryz.prog w base spare held fuel 39 [.slice a len cap] = some x) :
    ∃ rs : List Rec, rs.length = len ∧ len ≤ maxLen ∧ (∀ r ∈ rs, r.Ok) ∧ RecsAt w a rs := by
  rcases open_slice Tryz.underlying39 h with ⟨hcs, _⟩ | ⟨a', len', cap', m, n, D, Pl, hcs, _, hl, hm, hmm, _, hi⟩
  · simp at hcs
    obtain ⟨rfl, rfl, rfl⟩ := hcs
    exact ⟨[], rfl, Nat.zero_le _, by simp, fun i hi => by simp at hi⟩
  · simp at hcs
    obtain ⟨rfl, rfl, rfl⟩ := hcs
    have hlm : len ≤ m := by rw [hmm]; split <;> omega
    have each : ∀ i, i < len → ∃ r : Rec, r.Ok ∧ ∀ j u, r.cells[j]? = some u → w.cell? (a'.add (i * 6 + j)) = some u := by
      intro i hil
      obtain ⟨cs', hc, ht⟩ := hi i (by omega)
      rw [cellsR] at hc
      obtain ⟨r, hok, rfl⟩ := rec_of_cells ht
      obtain ⟨_, hcl, hat⟩ := World.cells?_some hc
      refine ⟨r, hok, fun j u hj => ?_⟩
      have hj6 : j < 6 := by
        have := (List.getElem?_eq_some_iff.1 hj).1
        simpa [Rec.cells] using this
      rw [← add_add, hat j hj6, hj]
    obtain ⟨rs, hrl, hp⟩ := list_of len each
    refine ⟨rs, hrl, by omega, fun r hr => ?_, fun i hir => ?_⟩
    · obtain ⟨i, hir, rfl⟩ := List.getElem_of_mem hr
      exact (hp i hir).1
    · have h0 := (hp 0 (by omega)).2 0 (.int .i64 (rs[0]'(by omega)).off) rfl
      obtain ⟨b, off, spot⟩ := a'
      have hspot : spot = none := by
        simpa [Addr.add] using World.cell?_spot h0
      subst hspot
      refine ⟨b, off, rfl, fun j u hj => ?_⟩
      have := (hp i hir).2 j u hj
      have e1 : (⟨b, off, none⟩ : Addr).add (i * 6 + j) = ⟨b, off + (i * 6 + j), none⟩ := by unfold Addr.add; split <;> simp_all
      rw [e1] at this
      rw [Nat.add_assoc]
      exact this
end
end Go.Proofs.YtmaomebnigcgeaaGreatDoor

/-
  An argument that is a slice of slices of records, as plain data.
-/
set_option linter.unusedSimpArgs false
set_option linter.unusedVariables false
namespace Go.Proofs.YtmaomebnigcgeaaGreatDoor
open Go.RowKit Go.ChangeShapes Go.WideShapes Go.Deep

theorem cellsRs : Tryz.prog.cellsOf 39 = 1 := by kernel_rfl

section
variable {H : Type} {enc : TypeId × Value → H} {w : World} {base : Nat} {spare : Nat → Bool} {held : Bool}

theorem slice_form {n : Nat} {c : Value} {y : DataW H × List MemPlace} (h : DataW.trod enc Tryz.prog w base spare held n 39 [c] = some y) : ∃ a l k, c = .slice a l k := by
  rcases Go.Deep.open_slice Tryz.underlying39 h with ⟨hcs, _⟩ | ⟨a', len', cap', _, _, _, _, hcs, _⟩
  · simp at hcs; exact ⟨_, _, _, hcs⟩
  · simp at hcs; exact ⟨_, _, _, hcs⟩

theorem rls_open {fuel : Nat} {a : Option Addr} {len cap : Nat} {x : DataW H × List MemPlace} (h : DataW.trod enc Tryz.prog w base spare held fuel 61 [.slice a len cap] = some x) :
    ∃ rs : List Rl, rs.length = len ∧ len ≤ maxLen ∧ (∀ r ∈ rs, r.Ok w) ∧ RlsAt w a rs := by
  rcases open_slice Tryz.underlying61 h with ⟨hcs, _⟩ | ⟨a', len', cap', m, n, D, Pl, hcs, _, hl, hm, hmm, _, hi⟩
  · simp at hcs
    obtain ⟨rfl, rfl, rfl⟩ := hcs
    exact ⟨[], rfl, Nat.zero_le _, by simp, fun i hi => by simp at hi⟩
  · simp at hcs
    obtain ⟨rfl, rfl, rfl⟩ := hcs
    have hlm : len ≤ m := by rw [hmm]; split <;> omega
    have each : ∀ i, i < len → ∃ r : Rl, r.Ok w ∧ w.cell? (a'.add i) = some (.slice r.ra r.rs.length r.rc) := by
      intro i hil
      obtain ⟨cs', hc, ht⟩ := hi i (by omega)
      rw [cellsRs] at hc
      obtain ⟨_, hcl, hat⟩ := World.cells?_some hc
      match cs', hcl with
      | [c], _ =>
        obtain ⟨ra, rn, rc, rfl⟩ := slice_form ht
        obtain ⟨rs, rfl, _, hok, hr⟩ := recs_open ht
        refine ⟨⟨ra, rs, rc⟩, ⟨hr, hok⟩, ?_⟩
        have h1 := hat 0 (by omega)
        have e0 : ∀ x : Addr, x.add 0 = x := fun x => by unfold Addr.add; simp
        rw [Nat.mul_one, e0] at h1
        simpa using h1
    obtain ⟨rs, hrl, hp⟩ := list_of len each
    refine ⟨rs, hrl, by omega, fun r hr => ?_, fun i hir => ?_⟩
    · obtain ⟨i, hir, rfl⟩ := List.getElem_of_mem hr
      exact (hp i hir).1
    · have h0 := (hp i hir).2
      have h00 := (hp 0 (by omega)).2
      obtain ⟨b, off, spot⟩ := a'
      have hspot : spot = none := by
        simpa [Addr.add] using World.cell?_spot h00
      subst hspot
      have e1 : (⟨b, off, none⟩ : Addr).add i = ⟨b, off + i, none⟩ := by unfold Addr.add; split <;> simp_all
      rw [e1] at h0
      exact ⟨b, off, rfl, h0⟩
end
end Go.Proofs.YtmaomebnigcgeaaGreatDoor

/-
  An argument that is a slice of bytes, as plain bytes.
-/
namespace Go.Proofs.YtmaomebnigcgeaaGreatDoor
open Go.RowKit Go.ChangeShapes Go.WideShapes

theorem cellsU8 : Tryz.prog.cellsOf 5 = 1 := by kernel_rfl
theorem bytes_open {H : Type} {enc : TypeId × Value → H} {w : World} {base : Nat} {spare : Nat → Bool} {held : Bool} {fuel : Nat} {a : Option Addr} {len cap : Nat} {x : DataW H × List MemPlace} (h : DataW.trod enc Tryz.prog w base spare held fuel 44 [.slice a len cap] = some x) :
    ∃ l : List UInt8, l.length = len ∧ len ≤ cap ∧ cap ≤ maxLen ∧ BytesAt w a l := by
  rcases open_ints Tryz.underlying44 Tryz.underlying5 cellsU8 h with ⟨hcs, _⟩ | ⟨x, l, c, zs, hcs, _, hl, hm, hz, _, hcell, hwz⟩
  · simp at hcs
    obtain ⟨rfl, rfl, rfl⟩ := hcs
    exact ⟨[], rfl, Nat.zero_le _, Nat.zero_le _, fun i hi => absurd hi (Nat.not_lt_zero _)⟩
  · simp at hcs
    obtain ⟨rfl, rfl, rfl⟩ := hcs
    have hlz : len ≤ zs.length := by rw [hz]; split <;> omega
    exact ⟨(bytesOf zs).take len, by rw [List.length_take, bytesOf_length]; omega, hl, hm, bytesAt_of_ints hlz hcell hwz⟩
end Go.Proofs.YtmaomebnigcgeaaGreatDoor
