/-
  A segment: Add. (Of the segments' seat.)
-/
import Derived.Test.YtmaomebnigcgeaaGreatDoorSmS
import Derived.Test.YtmaomebnigcgeaaGreatDoorRecordedW
import Derived.Lib.ItoaNum
import Derived.Lib.ItoaMem
import Derived.Lib.AtoiTie
import Derived.Lib.ParseIntBTie
import Derived.Lib.Strings
import Derived.Lib.TrimByte
import Derived.Lib.Repeat
import Derived.Test.YtmaomebnigcgeaaGreatDoorDkNameW
import Derived.Test.YtmaomebnigcgeaaGreatDoorShelf
import Derived.Test.YtmaomebnigcgeaaGreatDoorBoxG
import Derived.Test.YtmaomebnigcgeaaGreatDoorMono
import Derived.WalkKit
import Derived.Tactics
import Derived.Tactics2
import Derived.KernelRfl
import Derived.RowKit
import Derived.Lib.Walk
import Derived.Lib.Hide
import Derived.Lib.AppendIntMem
import Derived.Test.YtmaomebnigcgeaaGreatDoorOwn
import Derived.Test.YtmaomebnigcgeaaGreatDoorProg
import Derived.LaidEql
import Derived.Stop.Asserts
import Derived.RowKitTokens
import Derived.Test.YtmaomebnigcgeaaGreatDoorRecL
import Derived.Outline
import Derived.WalkLawsBesides
import Derived.WalkSpells
import Derived.Test.YtmaomebnigcgeaaGreatDoorSmO
import Derived.Test.YtmaomebnigcgeaaGreatDoorApp
import Derived.Test.YtmaomebnigcgeaaGreatDoorLast2
set_option linter.unusedSimpArgs false
set_option linter.unusedVariables false
namespace Go.Proofs.YtmaomebnigcgeaaGreatDoor
open Go.RowKit Go.Maps

theorem RecsAt.chg' {S : Nat → Prop} {w w' : World} {a : Option Addr} {rs : List Rec} (h : RecsAt w a rs) (hc : Chg S w w') (hn : rs ≠ [] → ∀ x, a = some x → ¬ S x.block) : RecsAt w' a rs := by
  by_cases h0 : rs = []
  · subst h0; exact fun i hi => absurd hi (by simp)
  · exact h.chg hc (hn h0)
/-- What is wrong (0: nothing), the disk and the segment behind it. -/
def addSg (d : Dk) (g : Sg) (base en : Int) (rs : List Rec) : Nat × Dk × Sg :=
  if encErr base en rs ≠ 0 then (encErr base en rs, d, g) else
    if base < g.next then (10, d, g) else
      if (d.add g.name (encAll base en rs)).1 = 0 then (0, (d.add g.name (encAll base en rs)).2, g.noted base en rs (encAll base en rs).length)
      else ((d.add g.name (encAll base en rs)).1, (d.add g.name (encAll base en rs)).2, g)
theorem err_same (k : Nat) : errV 32 k = errD k := rfl
theorem errD_ne {k : Nat} (h : k ≠ 0) : errD k = .iface 32 (.int .i64 (k : Nat)) := if_neg h

set_option maxHeartbeats 4000000 in
set_option maxRecDepth 20000 in
theorem sadd_any {B : Nat → Prop} {w : World} {p s : Nat} {S : Nat → Prop} {v : Value} {d : Dk} {g : Sg} (h : SgS B w p s S v d g) (hg : g.name.length ≤ 1000) (hpl : g.pls.length ≤ 100000) (hgs : g.size ≤ 1000000000)
    (base en : Int) (ra : Option Addr) (rs : List Rec) (rc : Nat) (hb : -9223372036854775808 ≤ base ∧ base ≤ 9223372036854775807) (he : -9223372036854775808 ≤ en ∧ en ≤ 9223372036854775807) (hrl : rs.length ≤ 1000000) (hok : ∀ r ∈ rs, Rec.Ok r) (hc : RecsAt w ra rs)
    (hra : rs ≠ [] → ∀ x, ra = some x → ¬ S x.block) (hel : encErr base en rs = 0 → (encAll base en rs).length ≤ 6000) :
    Calls Tryz.prog 12 #[.pointer (some ⟨s, 0, none⟩), .agg #[.int .i64 base, .int .i64 en, .slice ra rs.length rc]] w fun e w' =>
      e = .returned (errD (addSg d g base en rs).1) ∧ (∃ S' v', SgS B w' p s S' v' (addSg d g base en rs).2.1 (addSg d g base en rs).2.2) ∧ Chg (Off B) w w' := by
  obtain ⟨A, hA⟩ : ∃ A, addSg d g base en rs = A := ⟨_, rfl⟩
  rw [hA]
  unfold addSg at hA
  have HA := Lib.hid hA
  have hbx := Box.new w [.int .i64 base, .int .i64 en, .slice ra rs.length rc] 41
  have hal := (Chg.refl Nil w).alloc (.cells #[.int .i64 base, .int .i64 en, .slice ra rs.length rc] 41)
  have HS1 := Lib.hid (h.nil hal)
  have HR1 := Lib.hid (RecsAt.chg hal hc (fun _ _ h => h))
  have HSL := Lib.hid h.sl
  have HEN := Lib.hid (fun (w' : World) (hw : Chg Nil w w') => encode_any base en ra rs rc w' hb he (by unfold maxLen; omega) hok (RecsAt.chg hw hc (fun _ _ h => h)))
  have HEL := Lib.hid hel
  have HG := Lib.hid hg
  have HPL := Lib.hid hpl
  have HGS := Lib.hid hgs
  have HRA := Lib.hid hra
  clear hA h hb he hok hc hel hg hpl hgs hra
  go_enter Tryz.func12, Tryz.ntmps12
  go_upto_region 1 with fail
  have hbx : Box (w.alloc (.cells #[.int .i64 base, .int .i64 en, .slice ra rs.length rc] 41)) w.heap.size [.int .i64 base, .int .i64 en, .slice ra rs.length rc] 41 := hbx
  generalize w.alloc (.cells #[.int .i64 base, .int .i64 en, .slice ra rs.length rc] 41) = w1 at *
  obtain ⟨gx, hgx⟩ : ∃ gx, w.heap.size = gx := ⟨_, rfl⟩
  have HGX := Lib.hid hgx
  rw [hgx] at hbx
  rw [hgx]
  have HBX := Lib.hid hbx
  have HAL := Lib.hid hal
  have x0 := hbx.cell (j := 0) rfl
  have x1 := hbx.cell (j := 1) rfl
  have x2 := hbx.cell (j := 2) rfl
  clear hgx hbx hal
  go_wp2_with fail
  refine (HEN.out w1 HAL.out).mono ?_
  rintro e w2 ⟨hc2, hpost⟩
  have HC2 := Lib.hid hc2
  have HS2 := Lib.hid (HS1.out.nil hc2)
  clear x1 x2
  rcases hpost with ⟨hne, rfl⟩ | ⟨h0, v1, rfl, hown, hnew⟩
  · have HA2 := Lib.hid (HA.out.symm.trans (if_pos hne))
    obtain ⟨k, hk⟩ : ∃ k, encErr base en rs = k := ⟨_, rfl⟩
    rw [hk] at hne HA2
    have hev : errV 32 (encErr base en rs) = .iface 32 (.int .i64 (k : Nat)) := by rw [hk]; exact if_neg hne
    have HNE := Lib.hid hne
    rw [hev]
    clear hev hk hne hc2
    go_wp2_with fail
    go_ret
    rw [HA2.out]
    exact ⟨congrArg Ending.returned (errD_ne HNE.out).symm, ⟨_, _, HS2.out⟩, (HAL.out.trans HC2.out (fun _ h => h.elim)).weak (fun _ h => h.elim)⟩
  · have hln := HEL.out h0
    have HA2 := Lib.hid (HA.out.symm.trans (if_neg (fun h => h h0)))
    obtain ⟨l, hl⟩ : ∃ l, encAll base en rs = l := ⟨_, rfl⟩
    rw [hl] at hln hown HA2
    have HLN := Lib.hid hln
    have HOW := Lib.hid hown
    have HNW := Lib.hid hnew
    obtain ⟨a1, c1, hv1, _, _, hob⟩ := hown.val
    subst hv1
    have HOB := Lib.hid hob
    have HNX := Lib.hid (fun (w' : World) (hw : Chg Nil w2 w') => snext_any (HS2.out.nil hw).m (by have := HPL.out; omega))
    have x0 := hc2.cell x0 (fun h => h)
    clear hln hl hown hnew hob hc2 h0
    go_upto_region 4 with fail
    refine wp_region_mono _ (Chg Nil) (by kernel_rfl) (fun _ _ _ h k => h.trans k (fun _ h => h.elim)) [[], [0], [], [2], [1, 3]] rfl (by kernel_rfl) (Chg.refl _ _).drew ?_
    ((with_reducible apply Walk.eq); case h => (intro w2 hw2 N hN; simp only [depsOf, List.filterMap_nil, List.filterMap_cons, List.getElem?_toArray, List.getElem?_cons_zero, List.getElem?_cons_succ, Option.bind_some, List.nil_append, List.cons_append, Ob]; go_simp; (try go_bits); with_reducible exact hN _ (Chg.refl _ _)))
    ((with_reducible apply Walk.eq); case h => (intro w6 hw6 N hN; have hq := hw6.cell x0 (fun h => h); simp only [depsOf, List.filterMap_nil, List.filterMap_cons, List.getElem?_toArray, List.getElem?_cons_zero, List.getElem?_cons_succ, Option.bind_some, List.nil_append, List.cons_append, Ob]; go_simp; with_reducible exact hN _ (Chg.refl _ _)))
    ((with_reducible apply Walk.eq); case h => (intro w2 hw2 N hN; simp only [depsOf, List.filterMap_nil, List.filterMap_cons, List.getElem?_toArray, List.getElem?_cons_zero, List.getElem?_cons_succ, Option.bind_some, List.nil_append, List.cons_append, Ob]; go_simp; (try go_bits); with_reducible exact hN _ (Chg.refl _ _)))
    (with_reducible apply Walk.eq); case h =>
      intro w6 hw6 N hN
      simp only [depsOf, List.filterMap_nil, List.filterMap_cons, List.getElem?_toArray, List.getElem?_cons_zero, List.getElem?_cons_succ, Option.bind_some, List.nil_append, List.cons_append, Ob]
      go_simp
      refine (HNX.out w6 hw6).mono ?_
      rintro e w7 ⟨rfl, hc7⟩
      exact ⟨_, rfl, hN _ hc7⟩
    ((with_reducible apply Walk.eq); case h => (intro w2 hw2 N hN; simp only [depsOf, List.filterMap_nil, List.filterMap_cons, List.getElem?_toArray, List.getElem?_cons_zero, List.getElem?_cons_succ, Option.bind_some, List.nil_append, List.cons_append, Ob]; go_simp; (try go_bits); with_reducible exact hN _ (Chg.refl _ _)))
    intro w3 hw3
    simp only [List.nil_append, List.cons_append, Fin]
    have HW3 := Lib.hid hw3
    have HS3 := Lib.hid (HS2.out.nil hw3)
    have x0 := hw3.cell x0 (fun h => h)
    clear hw3
    by_cases hlt : base < g.next
    · have HA3 := Lib.hid (HA2.out.trans (if_pos hlt))
      go_simp
      go_wp2_with fail
      go_ret
      rw [HA3.out]
      exact ⟨rfl, ⟨_, _, HS3.out⟩, ((HAL.out.trans HC2.out (fun _ h => h.elim)).trans HW3.out (fun _ h => h.elim)).weak (fun _ h => h.elim)⟩
    · have HA3 := Lib.hid (HA2.out.trans (if_neg hlt))
      have c0 := HS3.out.m.c.cell (j := 0) rfl
      have c1' := HS3.out.m.c.cell (j := 1) rfl
      have hsz1 := HAL.out.size
      have hz12 := HC2.out.size
      have hz23 := HW3.out.size
      have HBN : Hid (l ≠ [] → ∀ x, a1 = some x → ¬ S x.block) := fun _ x hx hs => by
        have h1 := HNW.out x.block (HOB.out x hx)
        have h2 := (HSL.out x.block hs).2
        omega
      have HBY : Hid (BytesAt w3 a1 l) := by
        obtain ⟨a9, c9, e9, hb9, _⟩ := (HOW.out.chg HW3.out (fun _ _ h => h)).val
        simp only [Value.slice.injEq] at e9
        obtain ⟨rfl, _, rfl⟩ := e9
        exact hb9
      have HOP := Lib.hid (fun (w' : World) (h : SgS B w' p s S v d g) (hw : Chg S w3 w') => add_any h.a ⟨g.name.toArray⟩ (by show g.name.toArray.size ≤ 4611686018427387904; simp; have := HG.out; omega) a1 l c1 (by have := HLN.out; omega) (bytes_keep hw HBY.out HBN.out) HBN.out)
      obtain ⟨R, hR⟩ : ∃ R, d.add g.name l = R := ⟨_, rfl⟩
      rw [hR] at HA3
      have HR := Lib.hid hR
      clear hR hsz1 hz12 hz23
      go_upto_region 6 with fail
      clear hlt
      refine Ch.wp_region_chain _ (Chg (S)) [9] (SopF B p s S v d g R) (by kernel_rfl) (fun _ => Chg.refl _ _) (fun _ _ _ h k => h.trans k (fun _ h => .inl h)) [[], [0], [1], [2], [], [4], [5], [6], [], [3, 7, 8], [9]] rfl (by kernel_rfl) (by kernel_rfl) (Chg.refl _ _).drew ?_ ?_
      · exact HS3.out.nil (Chg.refl Nil _).drew
      iterate 3 ((with_reducible apply Ch.Walk.eq); (case hd => rfl); (case hi => rfl); case h => (intro w2 hw2 N hN; simp only [Ch.depsOf, List.filterMap_nil, List.filterMap_cons, List.getElem?_toArray, List.getElem?_cons_zero, List.getElem?_cons_succ, Option.bind_some, List.nil_append, List.cons_append, Ch.Ob]; go_simp; (try go_bits); with_reducible exact hN _ (Chg.refl _ _) (fun _ h => h)))
      ((with_reducible apply Ch.Walk.eq); (case hd => rfl); (case hi => rfl); case h => (intro w2 hw2 N hN; (have hq := hw2.cell c0 (HS3.out.ap s (.inl rfl))); simp only [Ch.depsOf, List.filterMap_nil, List.filterMap_cons, List.getElem?_toArray, List.getElem?_cons_zero, List.getElem?_cons_succ, Option.bind_some, List.nil_append, List.cons_append, Ch.Ob]; go_simp; (try go_bits); with_reducible exact hN _ (Chg.refl _ _) (fun _ h => h)))
      iterate 3 ((with_reducible apply Ch.Walk.eq); (case hd => rfl); (case hi => rfl); case h => (intro w2 hw2 N hN; simp only [Ch.depsOf, List.filterMap_nil, List.filterMap_cons, List.getElem?_toArray, List.getElem?_cons_zero, List.getElem?_cons_succ, Option.bind_some, List.nil_append, List.cons_append, Ch.Ob]; go_simp; (try go_bits); with_reducible exact hN _ (Chg.refl _ _) (fun _ h => h)))
      ((with_reducible apply Ch.Walk.eq); (case hd => rfl); (case hi => rfl); case h => (intro w2 hw2 N hN; (have hq := hw2.cell c1' (HS3.out.ap s (.inl rfl))); simp only [Ch.depsOf, List.filterMap_nil, List.filterMap_cons, List.getElem?_toArray, List.getElem?_cons_zero, List.getElem?_cons_succ, Option.bind_some, List.nil_append, List.cons_append, Ch.Ob]; go_simp; (try go_bits); with_reducible exact hN _ (Chg.refl _ _) (fun _ h => h)))
      ((with_reducible apply Ch.Walk.eq); (case hd => rfl); (case hi => rfl); case h => (intro w2 hw2 N hN; simp only [Ch.depsOf, List.filterMap_nil, List.filterMap_cons, List.getElem?_toArray, List.getElem?_cons_zero, List.getElem?_cons_succ, Option.bind_some, List.nil_append, List.cons_append, Ch.Ob]; go_simp; (try go_bits); with_reducible exact hN _ (Chg.refl _ _) (fun _ h => h)))
      refine Ch.Walk.chainE 0 (c := errD R.1) rfl rfl ?_ ?_
      · intro w6 hw6 vs hvs hF N hN
        obtain rfl := List.eq_nil_of_length_eq_zero hvs
        have F3 : SgS B w6 p s S v d g := hF
        have HO6 := Lib.hid (HOP.out w6 F3 hw6)
        have HF3 := Lib.hid F3
        clear F3 hF
        simp only [Ch.depsOf, List.filterMap_nil, List.filterMap_cons, List.getElem?_toArray, List.getElem?_cons_zero, List.getElem?_cons_succ, Option.bind_some, List.nil_append, List.cons_append, Ch.Ob, Ch.chained_get, Option.map_some, List.idxOf?, List.findIdx?, List.findIdx?.go, Nat.reduceBEq, List.getD_cons_zero, List.getD_cons_succ, Nat.reduceAdd, if_true, if_false, Bool.false_eq_true]
        go_simp
        refine HO6.out.mono ?_
        rintro e w7 ⟨rfl, h2, h3⟩
        have h2 : DiskAt w7 p (Gr S w6 w7) (d.add g.name l).2 := h2
        have he : errD (d.add (ByteArray.mk g.name.toArray).data.toList l).1 = errD R.1 := by show errD (d.add g.name l).1 = _; rw [HR.out]
        rw [HR.out] at h2
        rw [he]
        exact ⟨_, rfl, hN _ h3 ⟨_, HF3.out.disk h2 h3⟩⟩
      ((with_reducible apply Ch.Walk.eq); (case hd => rfl); (case hi => rfl); case h => (intro w2 hw2 N hN; simp only [Ch.depsOf, List.filterMap_nil, List.filterMap_cons, List.getElem?_toArray, List.getElem?_cons_zero, List.getElem?_cons_succ, Option.bind_some, List.nil_append, List.cons_append, Ch.Ob]; go_simp; (try go_bits); with_reducible exact hN _ (Chg.refl _ _) (fun _ h => h)))
      intro w6 hw6
      simp only [List.nil_append, List.cons_append, Ch.Fin, List.map_cons, List.map_nil, List.getD_cons_zero, List.getD_cons_succ]
      intro hF
      have HF := Lib.hid hF
      have HW6 := Lib.hid hw6
      have x0 := hw6.cell x0 (fun h => by have h1 := (HSL.out _ h).2; have h2 := HGX.out; have h1 : gx < w.heap.size := h1; omega)
      clear hF hw6 c0 c1'
      have HFR : Hid (Chg (Off B) w w6) := (((HAL.out.trans HC2.out (fun _ h => h.elim)).trans HW3.out (fun _ h => h.elim)).weak (S' := Off B) (fun _ h => h.elim)).trans HW6.out (fun k hk => .inl (HSL.out k hk).1)
      by_cases hr : R.1 = 0
      · have HA4 := Lib.hid (HA3.out.trans (if_pos hr))
        have hev : errD R.1 = .nilIface := by rw [hr]; rfl
        rw [hev]
        clear hev hr
        obtain ⟨S', h9⟩ := HF.out
        have hbx6 := ((HBX.out.chg HC2.out (fun h => h)).chg HW3.out (fun h => h)).chg HW6.out (fun h => by have h1 := (HSL.out _ h).2; have h2 := HGX.out; omega)
        have x0 := hbx6.cell (j := 0) rfl
        have x1 := hbx6.cell (j := 1) rfl
        have x2 := hbx6.cell (j := 2) rfl
        have hrs6 := RecsAt.chg' (RecsAt.chg HW3.out (RecsAt.chg HC2.out HR1.out (fun _ _ h => h)) (fun _ _ h => h)) HW6.out HRA.out
        have HNT := Lib.hid (snote_any h9.m HPL.out base en ra rs rc hrs6 hrl l.length (by have := HGS.out; have := HLN.out; omega))
        have H9 := Lib.hid h9
        clear h9 hrs6 hbx6
        go_simp
        go_wp2_with fail
        refine HNT.out.mono ?_
        rintro e w8 ⟨rfl, v', hm8, hc8, hn8⟩
        have H8 := Lib.hid (H9.out.seg hm8 hc8 hn8)
        have HF8 := Lib.hid (HFR.out.trans hc8 (fun k hk => .inl (H9.out.ml k hk)))
        clear hm8 hc8 hn8 HNT x0 x1 x2
        go_wp2_with fail
        go_ret
        rw [HA4.out]
        exact ⟨rfl, ⟨_, _, H8.out⟩, HF8.out⟩
      · have HA4 := Lib.hid (HA3.out.trans (if_neg hr))
        have hev : errD R.1 = .iface 32 (.int .i64 (R.1 : Nat)) := errD_ne hr
        rw [hev]
        have HRR := Lib.hid hr
        clear hev hr
        go_simp
        go_wp2_with fail
        go_ret
        obtain ⟨S', h9⟩ := HF.out
        rw [HA4.out]
        exact ⟨congrArg Ending.returned (errD_ne HRR.out).symm, ⟨S', _, h9⟩, HFR.out⟩
end Go.Proofs.YtmaomebnigcgeaaGreatDoor

/-
  Plain facts on the names of segments' files: a name is read back; two ways of reading a name are one. Of no program.
-/
namespace Go.Proofs.YtmaomebnigcgeaaGreatDoor
open Go.Lib

theorem decFrom_app (l m : List UInt8) : ∀ a, decFrom a (l ++ m) = (decFrom a l).bind fun b => decFrom b m := by
  induction l with
  | nil => intro a; rfl
  | cons x r ih =>
    intro a
    simp only [List.cons_append, decFrom]
    cases digitVal x with
    | none => rfl
    | some d => exact ih _

theorem decFrom_zeros (k : Nat) : decFrom 0 (List.replicate k 48) = some 0 := by
  induction k with
  | zero => rfl
  | succ k ih =>
    rw [List.replicate_succ]
    simp only [decFrom]
    have : digitVal 48 = some 0 := by decide
    rw [this]
    exact ih

theorem digit_of (u : Nat) (h : u < 10) : digitVal (UInt8.ofNat (48 + u)) = some u := by
  have e : (UInt8.ofNat (48 + u)).toNat = 48 + u := by rw [UInt8.toNat_ofNat']; omega
  unfold digitVal
  rw [e, if_pos (by omega)]
  congr 1
  omega

theorem dec_step {u : Nat} (h : ¬ u < 10) : decDigits u = decDigits (u / 10) ++ [UInt8.ofNat (48 + u % 10)] := by
  rw [decDigits, dif_neg h]
theorem dec_one {u : Nat} (h : u < 10) : decDigits u = [UInt8.ofNat (48 + u)] := by
  rw [decDigits, dif_pos h]

theorem dec_back (u : Nat) : decFrom 0 (decDigits u) = some u := by
  induction u using Nat.strongRecOn with
  | ind u ih =>
    by_cases h : u < 10
    · rw [dec_one h]
      simp only [decFrom, digit_of u h]
      simp
    · rw [dec_step h, decFrom_app, ih (u / 10) (by omega)]
      simp only [Option.bind_some, decFrom, digit_of (u % 10) (by omega)]
      congr 1
      omega

theorem dec_len : ∀ (k u : Nat), u < 10 ^ (k + 1) → (decDigits u).length ≤ k + 1
  | 0, u, h => by rw [dec_one (by simpa using h)]; simp
  | k + 1, u, h => by
    by_cases h10 : u < 10
    · rw [dec_one h10]; simp
    · rw [dec_step h10, List.length_append, List.length_singleton]
      have := dec_len k (u / 10) (by rw [Nat.pow_succ] at h; omega)
      omega

theorem dec_ne (u : Nat) : decDigits u ≠ [] := by
  intro h
  have := dec_back u
  by_cases h10 : u < 10
  · rw [dec_one h10] at h; cases h
  · rw [dec_step h10] at h; simp at h

/-- No nought stands ahead of a number that is none. -/
theorem dec_head (u : Nat) (h0 : 0 < u) : ∃ b r, decDigits u = b :: r ∧ b ≠ 48 := by
  induction u using Nat.strongRecOn with
  | ind u ih =>
    by_cases h : u < 10
    · refine ⟨_, [], dec_one h, fun e => ?_⟩
      have h1 := congrArg UInt8.toNat e
      rw [UInt8.toNat_ofNat'] at h1
      have : (48 : UInt8).toNat = 48 := by decide
      omega
    · obtain ⟨b, r, e, hb⟩ := ih (u / 10) (by omega) (by omega)
      exact ⟨b, r ++ [UInt8.ofNat (48 + u % 10)], by rw [dec_step h, e]; rfl, hb⟩

def zeros (n : Nat) : List UInt8 := List.replicate (10 - (decDigits n).length) 48
/-- A number, of ten digits at least. -/
def pad (n : Nat) : List UInt8 := zeros n ++ decDigits n
def dotlog : List UInt8 := [46, 108, 111, 103]
/-- A segment's file. -/
def segName (d : List UInt8) (n : Nat) : List UInt8 := d ++ [47] ++ pad n ++ dotlog

theorem pad_len {n : Nat} (h : n ≤ 1099511627776) : (pad n).length ≤ 13 := by
  unfold pad zeros
  rw [List.length_append, List.length_replicate]
  have := dec_len 12 n (by omega)
  omega

theorem pad_dec (n : Nat) : decNat (pad n) = some n := by
  have h : decFrom 0 (pad n) = some n := by
    unfold pad zeros
    rw [decFrom_app, decFrom_zeros]
    exact dec_back n
  unfold decNat
  have : (pad n).isEmpty = false := by
    unfold pad
    cases hd : zeros n ++ decDigits n with
    | nil => exact absurd (List.append_eq_nil_iff.1 hd).2 (dec_ne n)
    | cons _ _ => rfl
  rw [this]
  simpa using h

theorem atoi_of_dec {l : List UInt8} {n : Nat} (h : decNat l = some n) : atoi l = some (n : Int) := by
  cases l with
  | nil => simp [decNat] at h
  | cons b r =>
    have h0 : decFrom 0 (b :: r) = some n := by
      unfold decNat at h
      simpa using h
    obtain ⟨d, hd⟩ := digit_of_decFrom _ _ _ h0 0 b rfl
    have hne : b ≠ 45 ∧ b ≠ 43 := by
      constructor <;> (rintro rfl; simp [digitVal] at hd)
    unfold atoi
    simp [hne.1, hne.2, h]

theorem dec_nat (n : Nat) : decNat (decDigits n) = some n := by
  unfold decNat
  have : (decDigits n).isEmpty = false := by
    cases hd : decDigits n with
    | nil => exact absurd hd (dec_ne n)
    | cons _ _ => rfl
  rw [this]
  simpa using dec_back n

theorem pad_atoi {n : Nat} (h : n ≤ 1099511627776) : atoiAll (pad n) = .ok (n : Int) := by
  rw [atoiAll_short _ (by have := pad_len h; omega), atoi_of_dec (pad_dec n)]
  rfl

theorem dec_atoi {n : Nat} (h : n ≤ 1099511627776) : atoiAll (decDigits n) = .ok (n : Int) := by
  rw [atoiAll_short _ (by have := dec_len 12 n (by omega); omega), atoi_of_dec (dec_nat n)]
  rfl

/-- What the document's Number makes of a text. -/
def numR (s : List UInt8) : Int × Bool :=
  match parseIntB 64 s with
  | .ok v => if itoa v = s then (v, true) else (0, false)
  | _ => (0, false)

theorem numR_dec {n : Nat} (h : n ≤ 1099511627776) : numR (decDigits n) = ((n : Int), true) := by
  unfold numR
  rw [parseIntB_64, dec_atoi h]
  simp only [itoa_nonneg, if_true]

/-- The program's segment.Base. -/
def progBase (d nm : List UInt8) : Int :=
  let s := trimPrefix nm (d ++ [47])
  if hasSuffix s dotlog then
    match atoiAll (trimSuffix s dotlog) with
    | .ok v => if 0 ≤ v ∧ v ≤ 1099511627776 ∧ segName d v.toNat = nm then v else -1
    | _ => -1
  else -1

/-- The document's. -/
def refNum (s : List UInt8) : Int × Bool := if trimB s 48 = [] ∧ s ≠ [] then (0, true) else numR (trimLeftB s 48)
def refBase (d nm : List UInt8) : Int :=
  let r := refNum (trimSuffix (trimPrefix nm (d ++ [47])) dotlog)
  if r.2 = true ∧ 0 ≤ r.1 ∧ r.1 ≤ 1099511627776 ∧ segName d r.1.toNat = nm then r.1 else -1

theorem cut_pre (p l : List UInt8) : trimPrefix (p ++ l) p = l := by
  unfold trimPrefix hasPrefix
  rw [if_pos (by simp), List.drop_left]
theorem has_suf (l p : List UInt8) : hasSuffix (l ++ p) p = true := by
  unfold hasSuffix
  simp
theorem cut_suf (l p : List UInt8) : trimSuffix (l ++ p) p = l := by
  unfold trimSuffix
  rw [if_pos (has_suf l p), List.length_append, Nat.add_sub_cancel, List.take_left]

theorem segName_eq (d : List UInt8) (n : Nat) : segName d n = (d ++ [47]) ++ (pad n ++ dotlog) := by
  unfold segName
  rw [List.append_assoc]

theorem prog_hit (d : List UInt8) {n : Nat} (h : n ≤ 1099511627776) : progBase d (segName d n) = n := by
  unfold progBase
  simp only
  rw [show trimPrefix (segName d n) (d ++ [47]) = pad n ++ dotlog by rw [segName_eq]; exact cut_pre _ _]
  rw [has_suf, cut_suf, pad_atoi h]
  simp only [if_true]
  rw [if_pos ⟨by omega, by omega, by rw [Int.toNat_natCast]⟩]

theorem prog_miss {d nm : List UInt8} (h : ∀ n : Nat, n ≤ 1099511627776 → segName d n ≠ nm) : progBase d nm = -1 := by
  unfold progBase
  simp only
  split
  · split
    · rename_i v _
      rw [if_neg (fun ⟨h0, h1, h2⟩ => h v.toNat (by omega) h2)]
    · rfl
  · rfl

theorem dropWhile_rep (k : Nat) (l : List UInt8) : (List.replicate k 48 ++ l).dropWhile (· == (48 : UInt8)) = l.dropWhile (· == (48 : UInt8)) := by
  induction k with
  | zero => rfl
  | succ k ih => rw [List.replicate_succ, List.cons_append, List.dropWhile_cons_of_pos (by rfl)]; exact ih

theorem pad_left {n : Nat} (h0 : 0 < n) : trimLeftB (pad n) 48 = decDigits n := by
  obtain ⟨b, r, e, hb⟩ := dec_head n h0
  unfold pad zeros trimLeftB
  rw [dropWhile_rep, e, List.dropWhile_cons_of_neg (by simpa using hb)]

theorem dropWhile_none {p : UInt8 → Bool} : ∀ {l : List UInt8}, l.dropWhile p = [] → ∀ x ∈ l, p x = true
  | [], _, x, hx => by cases hx
  | b :: r, h, x, hx => by
    by_cases hb : p b = true
    · rw [List.dropWhile_cons_of_pos hb] at h
      rcases List.mem_cons.1 hx with rfl | hx
      · exact hb
      · exact dropWhile_none h x hx
    · rw [List.dropWhile_cons_of_neg hb] at h
      cases h

theorem trimB_all {l : List UInt8} (h : trimB l 48 = []) : ∀ x ∈ l, x = 48 := by
  unfold trimB trimLeftB at h
  replace h := dropWhile_none h
  unfold trimRightB at h
  cases hm : l.reverse.dropWhile (· == (48 : UInt8)) with
  | nil =>
    replace hm := dropWhile_none hm
    intro x hx
    simpa using hm x (by simpa using hx)
  | cons b r =>
    rw [hm] at h
    have h1 := h b (by simp)
    have h2 := List.head_dropWhile_not (p := fun x : UInt8 => x == 48) (l := l.reverse) (by rw [hm]; simp)
    simp only [hm, List.head_cons] at h2
    rw [h1] at h2
    cases h2

theorem refNum_pad {n : Nat} (h : n ≤ 1099511627776) : refNum (pad n) = ((n : Int), true) := by
  unfold refNum
  by_cases h0 : n = 0
  · subst h0
    rw [if_pos]
    · rfl
    · have : pad 0 = List.replicate 10 48 := by unfold pad zeros; rw [dec_one (by omega)]; rfl
      rw [this]
      exact ⟨by decide, by decide⟩
  · have hne : trimB (pad n) 48 ≠ [] := by
      intro e
      obtain ⟨b, r, e2, hb⟩ := dec_head n (by omega)
      have hm : b ∈ pad n := by unfold pad; rw [e2]; simp
      exact hb (trimB_all e b hm)
    rw [if_neg (fun h => hne h.1), pad_left (by omega)]
    exact numR_dec h

theorem ref_hit (d : List UInt8) {n : Nat} (h : n ≤ 1099511627776) : refBase d (segName d n) = n := by
  unfold refBase
  simp only
  rw [show trimPrefix (segName d n) (d ++ [47]) = pad n ++ dotlog by rw [segName_eq]; exact cut_pre _ _]
  rw [cut_suf, refNum_pad h]
  rw [if_pos ⟨rfl, by simp only; omega, by simp only; omega, by rw [Int.toNat_natCast]⟩]

theorem ref_miss {d nm : List UInt8} (h : ∀ n : Nat, n ≤ 1099511627776 → segName d n ≠ nm) : refBase d nm = -1 := by
  unfold refBase
  simp only
  rw [if_neg (fun ⟨_, h0, h1, h2⟩ => h _ (by omega) h2)]

/-- THE PLAIN LAW. -/
theorem bases_eq (d nm : List UInt8) : progBase d nm = refBase d nm := by
  by_cases h : ∃ n : Nat, n ≤ 1099511627776 ∧ segName d n = nm
  · obtain ⟨n, hn, rfl⟩ := h
    rw [prog_hit d hn, ref_hit d hn]
  · have h' : ∀ n : Nat, n ≤ 1099511627776 → segName d n ≠ nm := fun n hn e => h ⟨n, hn, e⟩
    rw [prog_miss h', ref_miss h']
end Go.Proofs.YtmaomebnigcgeaaGreatDoor

/-
  The walks of the two packages' names of segments' files.
-/
set_option linter.unusedSimpArgs false
set_option linter.unusedVariables false
namespace Go.Proofs.YtmaomebnigcgeaaGreatDoor
open Go.RowKit Go.Shelf Go.Lib


theorem ba_eq {a b : ByteArray} (h : a.data.toList = b.data.toList) : a = b := by
  cases a; cases b
  congr 1
  exact Array.toList_inj.1 h
theorem ba_app (a b : ByteArray) : (a ++ b).data.toList = a.data.toList ++ b.data.toList := by
  simp

/-- What the listed variables read as. -/
structure Tabs (w : World) : Prop where
  pow : TabIs Tryz.prog w "internal/strconv.uint64pow10" .u64 pow10Tab

theorem var_chg {w w' : World} (h : Chg Nil w w') {n : String} {cs : Array Value} (hv : w.var? Tryz.prog n = some cs) : w'.var? Tryz.prog n = some cs := by
  unfold World.var? at *
  cases hg : Tryz.prog.globalNamed n with
  | none => simp [hg] at hv
  | some g =>
    simp only [hg, Option.bind_some] at hv ⊢
    have hlt : g < w.heap.size := by
      rcases Nat.lt_or_ge g w.heap.size with h' | h'
      · exact h'
      · rw [Array.getElem?_eq_none h'] at hv; simp at hv
    rw [h.block g hlt (fun h => h)]
    exact hv

theorem Tabs.chg {w w' : World} (h : Tabs w) (k : Chg Nil w w') : Tabs w' := by
  exact ⟨var_chg k h.pow⟩
/-- .. and the two errors of numbers' texts. -/
structure TabE (w : World) : Prop where
  tabs : Tabs w
  syn : ∃ tp p, w.var? Tryz.prog "strconv.ErrSyntax" = some #[.iface tp p]
  rng : ∃ tp p, w.var? Tryz.prog "strconv.ErrRange" = some #[.iface tp p]
theorem TabE.chg {w w' : World} (h : TabE w) (k : Chg Nil w w') : TabE w' := by
  obtain ⟨h1, ⟨tp, p, h2⟩, ⟨tp', p', h3⟩⟩ := h
  exact ⟨h1.chg k, ⟨tp, p, var_chg k h2⟩, ⟨tp', p', var_chg k h3⟩⟩

theorem itoa_any {w : World} (hT : Tabs w) (n : Nat) (hn : n ≤ 1099511627776) :
    Calls Tryz.prog 53 #[.int .i64 n] w fun e w' => e = .returned (.string ⟨(decDigits n).toArray⟩) ∧ Chg Nil w w' := by
  have h := Any.strconv_Itoa Tryz.laysM171 (n : Int) (by omega) (by omega) w hT.pow
  change Calls Tryz.prog 53 _ _ _ at h
  refine h.mono fun e w' ⟨h1, k, os, h2⟩ => ⟨?_, ?_⟩
  · rw [h1, itoa_nonneg]
  · rw [h2]; exact Chg.of_below (below_grow _ w (Nat.le_refl _) k os) _

theorem repeat_any (c : Nat) (hc : c ≤ 10) (w : World) :
    Calls Tryz.prog 54 #[.string ⟨#[48]⟩, .int .i64 c] w fun e w' => e = .returned (.string ⟨(List.replicate c 48).toArray⟩) ∧ Chg Nil w w' := by
  have hrep : ∀ c, repeatL [48] c = List.replicate c 48 := by
    intro c
    induction c with
    | zero => rfl
    | succ c ih => rw [repeatL, ih]; rfl
  rcases Nat.lt_or_ge c 2 with h | h
  · rcases Nat.lt_or_ge c 1 with h1 | h1
    · obtain rfl : c = 0 := by omega
      exact (Any.strings_Repeat_zero Tryz.lays105 ⟨#[48]⟩ w).mono fun e w' ⟨h1, h2⟩ => ⟨h1, by rw [h2]; exact Chg.refl _ _⟩
    · obtain rfl : c = 1 := by omega
      exact (Any.strings_Repeat_one Tryz.lays105 ⟨#[48]⟩ w).mono fun e w' ⟨h1, h2⟩ => ⟨h1, by rw [h2]; exact Chg.refl _ _⟩
  · have hm := Any.strings_Repeat_main Tryz.lays105 Tryz.Builder_Extra_105 ⟨#[48]⟩ c w h (by omega) (by have : (ByteArray.mk #[48]).size = 1 := rfl; rw [this]; omega) (by decide)
    refine hm.mono fun e w' ⟨h1, h2⟩ => ⟨?_, Chg.of_below h2 _⟩
    rw [h1]
    have : (ByteArray.mk #[48]).data.toList = [48] := rfl
    rw [this, hrep]

set_option maxHeartbeats 2000000 in
theorem name_any {w : World} (hT : Tabs w) (d : ByteArray) (n : Nat) (hd : d.size ≤ 1000) (hn : n ≤ 1099511627776) :
    Calls Tryz.prog 29 #[.string d, .int .i64 n] w fun e w' => e = .returned (.string ⟨(segName d.data.toList n).toArray⟩) ∧ Chg Nil w w' := by
  have HI := Lib.hid (itoa_any hT n hn)
  have HR := Lib.hid (fun w => repeat_any (10 - (decDigits n).length) (by omega) w)
  have HL : Hid ((decDigits n).length ≤ 13) := dec_len 12 n (by omega)
  obtain ⟨z, hz⟩ : ∃ z, z = decDigits n := ⟨_, rfl⟩
  rw [← hz] at HI HR HL
  have HZ := Lib.hid hz
  clear hz hT
  go_enter Tryz.func29, Tryz.ntmps29
  go_wp2_with fail
  refine HI.out.mono ?_
  rintro e w1 ⟨rfl, hc1⟩
  have hmx : max 0 (wrap64 (10 - (z.length : Int))) = ((10 - z.length : Nat) : Int) := by
    have := HL.out
    unfold wrap64; omega
  have hz1 : (ByteArray.mk z.toArray).size = z.length := by show z.toArray.size = _; simp
  go_wp2_with fail
  refine (HR.out w1).mono ?_
  rintro e w2 ⟨rfl, hc2⟩
  have hz13 := HL.out
  go_wp2_with fail
  go_ret
  refine ⟨congrArg (fun b => Ending.returned (Value.string b)) (ba_eq ?_), hc1.trans hc2 (fun _ h => h.elim)⟩
  rw [ba_app, ba_app, ba_app, ba_app]
  simp only [segName, pad, zeros, ← HZ.out, List.append_assoc]
  rfl

/-- Numbers with blanks between: one number. -/
theorem strsT : SliceT Tryz.prog 127 9 1 16 :=
  ⟨Tryz.underlying127, by
    have h : (Tryz.prog.info? 9).map (fun i => (i.zero, i.size, i.bytes)) = some (some (.string ⟨#[]⟩), 1, 16) := by kernel_rfl
    obtain ⟨i, hi, hz, h1, h2⟩ := info_parts h
    exact ⟨i, _, hi, hz, rfl, h1, h2⟩⟩

theorem own_one {w : World} {e : TypeId} {v x : Value} (h : w.ownsRow 0 e 1 v 1 [x]) : ∃ q c', v = .slice (some ⟨q, 0, none⟩) 1 c' ∧ w.cell? ⟨q, 0, none⟩ = some x := by
  rcases h.2 with ⟨rfl, hn⟩ | ⟨g, cap, cur, rfl, _, hg, hnc, hcm, hcs, htake⟩
  · cases hn
  · refine ⟨g, cap, rfl, ?_⟩
    rw [cell_of_row w g 0 cur _ _ hg]
    have := congrArg (fun l => l[0]?) htake
    simpa using this

set_option maxHeartbeats 2000000 in
theorem told_any {w : World} (hT : Tabs w) (b c n : Nat) (hn : n ≤ 1099511627776) (hb : w.cell? ⟨b, 0, none⟩ = some (.int .i64 n)) :
    Calls Tryz.prog 49 #[.slice (some ⟨b, 0, none⟩) 1 c] w fun e w' => e = .returned (.string ⟨(decDigits n).toArray⟩) ∧ Chg Nil w w' := by
  have HI := Lib.hid (itoa_any hT n hn)
  obtain ⟨z, hz⟩ : ∃ z, decDigits n = z := ⟨_, rfl⟩
  have HT := Lib.hid hT
  have HZ := Lib.hid hz
  rw [hz]
  clear hz hT HI
  go_enter Tryz.func49, Tryz.ntmps49
  go_wp2_with fail
  go_loopw [8, 3] (fun ii vv wr => ∃ wq, wq = wr ∧ Chg Nil w wr ∧ ((ii = .int .i64 0 ∧ vv = .slice none 0 0) ∨ (ii = .int .i64 1 ∧ ∃ q c', vv = .slice (some ⟨q, 0, none⟩) 1 c' ∧ wr.cell? ⟨q, 0, none⟩ = some (.string ⟨z.toArray⟩)))) (fun ii _ _ => 1 - (RowKit.intOf ii).toNat)
  case atStart => exact ⟨_, rfl, Chg.refl _ _, .inl ⟨rfl, rfl⟩⟩
  case round =>
    obtain ⟨wr, rfl, hch, ⟨rfl, rfl⟩ | ⟨rfl, q, c', rfl, hq⟩⟩ := hrel
    · have hb' := hch.cell hb (fun h => h)
      have HI2 := Lib.hid (itoa_any (HT.out.chg hch) n hn)
      rw [HZ.out] at HI2
      have HCH := Lib.hid hch
      clear hch hb
      go_wp2_with fail
      refine HI2.out.mono ?_
      rintro e w1 ⟨rfl, hc1⟩
      have HC1 := Lib.hid (HCH.out.trans hc1 (fun _ h => h.elim))
      go_wp2_with (at_builtin; go_must (refine wpList_append_grew rfl (.tmp 12) (.tmp 15) 127 127 rfl strsT _ Tryz.underlying127 (by intro _; simp) _ _ _ rfl (World.ownsRow_nil _ 0 _ 1) _ 1 [.string ⟨z.toArray⟩] rfl (Source.box (Box.new _ [.string ⟨z.toArray⟩] _) rfl (by intro v hv; simp at hv; subst hv; rfl)) (by unfold maxLen; omega) (by omega) ?_); intro v2 w8 hown2 hg2 _)
      obtain ⟨q, c', rfl, hq⟩ := own_one hown2
      have hal := (Chg.refl Nil w1).alloc (.cells #[.string ⟨z.toArray⟩] 9)
      exact ⟨⟨_, rfl, HC1.out.trans (hal.trans hg2.chg (fun i h => by cases h)) (fun _ h => h.elim), .inr ⟨rfl, q, c', rfl, hq⟩⟩, by simp [RowKit.intOf]⟩
    · have HJ := Lib.hid (Any.strings_Join_one Tryz.lays156 Tryz.Builder_Extra_156 q 0 c' ⟨z.toArray⟩ ⟨#[32]⟩ wr hq)
      clear hb hq
      go_wp2_with (go_at_call 72; refine HJ.out.mono ?_; rintro e w' ⟨rfl, rfl⟩)
      go_ret
      exact ⟨rfl, hch⟩

set_option maxHeartbeats 2000000 in
theorem refName_any {w : World} (hT : Tabs w) (d : ByteArray) (n : Nat) (hd : d.size ≤ 1000) (hn : n ≤ 1099511627776) :
    Calls Tryz.prog 24 #[.string d, .int .i64 n] w fun e w' => e = .returned (.string ⟨(segName d.data.toList n).toArray⟩) ∧ Chg Nil w w' := by
  have hal := (Chg.refl Nil w).alloc (.cells #[.int .i64 n] 3)
  have HTO := Lib.hid (told_any (hT.chg hal) w.heap.size 1 n hn ((Box.new w [.int .i64 n] 3).cell (j := 0) rfl))
  have HAL := Lib.hid hal
  have HL : Hid ((decDigits n).length ≤ 13) := dec_len 12 n (by omega)
  obtain ⟨z, hz⟩ : ∃ z, decDigits n = z := ⟨_, rfl⟩
  rw [hz] at HTO HL
  have HZ := Lib.hid hz
  clear hz hT hal
  go_enter Tryz.func24, Tryz.ntmps24
  go_wp2_with (go_at_call 49; refine HTO.out.mono ?_; rintro e w1 ⟨rfl, hc1⟩)
  go_loopw [5] (fun vv wr => ∃ (wq : World) (k : Nat) (s : ByteArray), wq = wr ∧ s.size = k + z.length ∧ (k = 0 ∨ k + z.length ≤ 10) ∧ vv = .string s ∧ Hid (s.data.toList = List.replicate k 48 ++ z) ∧ wr = w1) (fun vv _ => 10 - (match vv with | .string s => s.size | _ => 0))
  case atStart => exact ⟨_, 0, _, rfl, by rw [← list_size]; simp, .inl rfl, rfl, rfl, rfl⟩
  case round =>
    obtain ⟨wr, k, s, rfl, hs, hk, rfl, HS, rfl⟩ := hrel
    have hz13 := HL.out
    by_cases hlt : s.size < 10
    · have hlti : (s.size : Int) < 10 := by omega
      go_wp2_with fail
      go_roundw
      case rel => exact ⟨_, k + 1, _, rfl, by rw [← list_size, ba_app, List.length_append, list_size s, hs]; simp; omega, by omega, rfl, by unfold Hid; rw [ba_app, HS.out, List.replicate_succ]; rfl, trivial⟩
      case measure =>
        have : (ByteArray.mk #[48] ++ s).size = 1 + s.size := by rw [← list_size, ba_app, List.length_append, list_size s]; rfl
        simp only [this]
        omega
    · have hlti : ¬ (s.size : Int) < 10 := by omega
      have HLT := Lib.hid hlti
      go_wp2_with fail
      go_ret
      refine ⟨congrArg (fun b => Ending.returned (Value.string b)) (ba_eq ?_), HAL.out.trans hc1 (fun _ h => h.elim)⟩
      rw [ba_app, ba_app, ba_app, HS.out]
      have hkz : k = 10 - z.length := by omega
      simp only [segName, pad, zeros, HZ.out, List.append_assoc, hkz]
      rfl
end Go.Proofs.YtmaomebnigcgeaaGreatDoor

/-
  A segment is made. (Of the segments' seat.)
-/
set_option linter.unusedSimpArgs false
set_option linter.unusedVariables false
namespace Go.Proofs.YtmaomebnigcgeaaGreatDoor
open Go.RowKit Go.Maps

theorem var_off {S : Nat → Prop} {w w' : World} (h : Chg S w w') {n : String} {cs : Array Value} (hn : ∀ g, Tryz.prog.globalNamed n = some g → ¬ S g) (hv : w.var? Tryz.prog n = some cs) : w'.var? Tryz.prog n = some cs := by
  unfold World.var? at *
  cases hg : Tryz.prog.globalNamed n with
  | none => simp [hg] at hv
  | some g =>
    simp only [hg, Option.bind_some] at hv ⊢
    have hlt : g < w.heap.size := by
      rcases Nat.lt_or_ge g w.heap.size with h' | h'
      · exact h'
      · rw [Array.getElem?_eq_none h'] at hv; simp at hv
    rw [h.block g hlt (hn g hg)]
    exact hv
/-- The variables that the names' texts come out of. -/
def TabN (n : String) : Prop := n = "internal/strconv.uint64pow10"
/-- Their blocks. -/
def TabB (B : Nat → Prop) : Prop := ∀ n, TabN n → ∀ g, Tryz.prog.globalNamed n = some g → B g
theorem Tabs.off {S : Nat → Prop} {w w' : World} (h : Tabs w) (k : Chg S w w') (hn : ∀ n, TabN n → ∀ g, Tryz.prog.globalNamed n = some g → ¬ S g) : Tabs w' := by
  exact ⟨var_off k (hn _ rfl) h.pow⟩
theorem var_lt {w : World} {n : String} {cs : Array Value} (hv : w.var? Tryz.prog n = some cs) {g : Nat} (hg : Tryz.prog.globalNamed n = some g) : g < w.heap.size := by
  unfold World.var? at hv
  rw [hg] at hv
  simp only [Option.bind_some] at hv
  rcases Nat.lt_or_ge g w.heap.size with h' | h'
  · exact h'
  · rw [Array.getElem?_eq_none h'] at hv; simp at hv
/-- They lie in the world. -/
theorem Tabs.lt {w : World} (h : Tabs w) : TabB (fun k => k < w.heap.size) := by
  rintro n rfl g hg
  exact var_lt h.pow hg

/-- The disk, of blocks other than those of B. -/
structure DsS (B : Nat → Prop) (w : World) (p : Nat) (S : Nat → Prop) (d : Dk) : Prop where
  lo : ∀ k, B k → k < w.heap.size
  a : DiskAt w p S d
  sl : ∀ k, S k → ¬ B k ∧ k < w.heap.size
theorem SgS.ds {B : Nat → Prop} {w : World} {p s : Nat} {S : Nat → Prop} {v : Value} {d : Dk} {g : Sg} (h : SgS B w p s S v d g) : DsS B w p S d := ⟨h.lo, h.a, h.sl⟩
theorem DsS.nil {B : Nat → Prop} {w w' : World} {p : Nat} {S : Nat → Prop} {d : Dk} (h : DsS B w p S d) (hc : Chg Nil w w') : DsS B w' p S d := by
  have hz := hc.size
  exact ⟨fun k hk => Nat.lt_of_lt_of_le (h.lo k hk) hz, h.a.chg hc (fun _ _ h => h), fun k hs => ⟨(h.sl k hs).1, by have := (h.sl k hs).2; omega⟩⟩
theorem DsS.disk {B : Nat → Prop} {w w' : World} {p : Nat} {S : Nat → Prop} {d d' : Dk} (h : DsS B w p S d) (ha : DiskAt w' p (Gr S w w') d') (hc : Chg S w w') : DsS B w' p (Gr S w w') d' := by
  have hz := hc.size
  refine ⟨fun k hk => Nat.lt_of_lt_of_le (h.lo k hk) hz, ha, ?_⟩
  rintro k (hs | hs)
  · exact ⟨(h.sl k hs).1, by have := (h.sl k hs).2; omega⟩
  · exact ⟨fun hb => by have := h.lo k hb; have := hs.1; omega, hs.2⟩
/-- A new segment beside the disk. -/
theorem DsS.seg {B : Nat → Prop} {w w' : World} {p s : Nat} {S : Nat → Prop} {v : Value} {d : Dk} {g : Sg} (h : DsS B w p S d) (hc : Chg Nil w w') (hm : Sm w' s p v g) (hn : ∀ k, SHas s v k → w.heap.size ≤ k) : SgS B w' p s S v d g := by
  have h2 := h.nil hc
  exact ⟨h2.lo, h2.a, hm, fun k hk hs => by have := hn k hk; have := (h.sl k hs).2; omega, h2.sl, fun k hk hb => by have := hn k hk; have := h.lo k hb; omega⟩

theorem segName_len (dir : ByteArray) (n : Nat) (hd : dir.size ≤ 100) (hn : n ≤ 1099511627776) : (segName dir.data.toList n).length ≤ 1000 := by
  have h1 := dec_len 12 n (by omega)
  have h2 := list_size dir
  unfold segName pad zeros dotlog
  simp only [List.length_append, List.length_replicate, List.length_cons, List.length_nil]
  omega
/-- What Make leaves. -/
def MakeAt (B : Nat → Prop) (w w' : World) (p : Nat) (S : Nat → Prop) (nm : List UInt8) (base : Nat) (R : Nat × Dk) (e : Ending) : Prop :=
  Chg S w w' ∧ ∃ S', DsS B w' p S' R.2 ∧
  ((R.1 = 0 ∧ ∃ s, w.heap.size ≤ s ∧ e = .returned (.tuple #[.pointer (some ⟨s, 0, none⟩), .nilIface]) ∧ SgS B w' p s S' (.slice none 0 0) R.2 ⟨nm, base, [], 0⟩) ∨
   (R.1 ≠ 0 ∧ e = .returned (.tuple #[.pointer none, errD R.1])))

theorem smake_range {w : World} (p : Nat) (dir : ByteArray) (base : Int) (hb : base < 0 ∨ 1099511627776 < base) :
    Calls Tryz.prog 6 #[.pointer (some ⟨p, 0, none⟩), .string dir, .int .i64 base] w fun e w' => e = .returned (.tuple #[.pointer none, errD 2]) ∧ w = w' := by
  by_cases h0 : base < 0
  · clear hb
    go_enter Tryz.func6, Tryz.ntmps6
    go_wp2_with fail
    go_ret2
    exact ⟨rfl, rfl⟩
  · have h1 : (1099511627776 : Int) < base := by omega
    clear hb
    go_enter Tryz.func6, Tryz.ntmps6
    go_wp2_with fail
    go_ret2
    exact ⟨rfl, rfl⟩

set_option maxHeartbeats 2000000 in
set_option maxRecDepth 20000 in
theorem smake_any {B : Nat → Prop} {w : World} {p : Nat} {S : Nat → Prop} {d : Dk} (h : DsS B w p S d) (hT : Tabs w) (hTB : TabB B) (dir : ByteArray) (hd : dir.size ≤ 100) (base : Nat) (hb : base ≤ 1099511627776) :
    Calls Tryz.prog 6 #[.pointer (some ⟨p, 0, none⟩), .string dir, .int .i64 (base : Nat)] w fun e w' => MakeAt B w w' p S (segName dir.data.toList base) base (d.make (segName dir.data.toList base)) e := by
  have h0 : ¬ (base : Int) < 0 := by omega
  have h1 : ¬ (1099511627776 : Int) < (base : Int) := by omega
  have HNM := Lib.hid (fun (w' : World) (hT' : Tabs w') => name_any hT' dir base (by omega) hb)
  have HT := Lib.hid hT
  have HTB := Lib.hid hTB
  obtain ⟨nm, hnm⟩ : ∃ nm, segName dir.data.toList base = nm := ⟨_, rfl⟩
  have hln : nm.length ≤ 1000 := by rw [← hnm]; exact segName_len dir base hd hb
  have HLN := Lib.hid hln
  rw [hnm] at HNM
  rw [hnm]
  have HS := Lib.hid h
  obtain ⟨R, hR⟩ : ∃ R, d.make nm = R := ⟨_, rfl⟩
  rw [hR]
  have HRR := Lib.hid hR
  clear h hT hTB hd hb hnm hln hR
  go_enter Tryz.func6, Tryz.ntmps6
  go_wp2_with fail
  refine (HNM.out w HT.out).mono ?_
  rintro e w1 ⟨rfl, hc1⟩
  have HS1 := Lib.hid (HS.out.nil hc1)
  have HC1 := Lib.hid hc1
  have HOP := Lib.hid (make_any HS1.out.a ⟨nm.toArray⟩ (by show nm.toArray.size ≤ 4611686018427387904; simp; have := HLN.out; omega))
  have he : d.make (ByteArray.mk nm.toArray).data.toList = d.make nm := rfl
  rw [he, HRR.out] at HOP
  clear hc1 he
  go_wp2_with fail
  refine HOP.out.mono ?_
  rintro e w2 ⟨rfl, h2, hc2⟩
  have HS2 := Lib.hid (HS1.out.disk h2 hc2)
  have HC2 := Lib.hid (HC1.out.weak (S' := S) (fun _ h => h.elim) |>.trans hc2 (fun _ h => .inl h))
  have HT2 := Lib.hid ((HT.out.chg HC1.out).off hc2 (fun n hn g hg hs => (HS1.out.sl g hs).1 (HTB.out n hn g hg)))
  clear h2 hc2 HOP
  by_cases hr : R.1 = 0
  · have hev : errD R.1 = .nilIface := by rw [hr]; rfl
    rw [hev]
    have HR := Lib.hid hr
    clear hev hr
    go_wp2_with fail
    refine (HNM.out w2 HT2.out).mono ?_
    rintro e w3 ⟨rfl, hc3⟩
    have HC3 := Lib.hid hc3
    clear hc3
    go_wp2_with fail
    go_ret2
    have hal := (Chg.refl Nil w3).alloc (.cells #[.pointer (some ⟨p, 0, none⟩), .string ⟨nm.toArray⟩, .int .i64 (base : Nat), .slice none 0 0, .int .i64 0] 80)
    have h3 := HC2.out.size
    have h4 := HC3.out.size
    have hz : w2.heap.size ≤ w3.heap.size := h4
    refine ⟨(HC2.out.trans HC3.out (fun _ h => h.elim)).trans (hal.weak (fun _ h => h.elim)) (fun _ h => .inl h), _, (HS2.out.nil HC3.out).nil hal, .inl ⟨HR.out, w3.heap.size, by omega, rfl, ?_⟩⟩
    refine (HS2.out.nil HC3.out).seg hal ⟨Box.new w3 [.pointer (some ⟨p, 0, none⟩), .string ⟨nm.toArray⟩, .int .i64 (base : Nat), .slice none 0 0, .int .i64 0] 80, OwnP.nil _⟩ ?_
    rintro k (rfl | hk)
    · exact Nat.le_refl _
    · simp [Value.ownBlock] at hk
  · have hev : errD R.1 = .iface 32 (.int .i64 (R.1 : Nat)) := if_neg hr
    rw [hev]
    have HR := Lib.hid hr
    clear hev hr
    go_wp2_with fail
    go_ret2
    exact ⟨HC2.out, _, HS2.out, .inr ⟨HR.out, congrArg (fun v => Ending.returned (.tuple #[.pointer none, v])) (errD_ne HR.out).symm⟩⟩
end Go.Proofs.YtmaomebnigcgeaaGreatDoor

/-
  errors.As at an Errno and at nil; api.Tell, plain.Bare, and the law's 'bare' at them (after the guide's worked example of errors.As at a concrete target).
-/
namespace Go.Proofs.YtmaomebnigcgeaaGreatDoor
open Go.RowKit Go.Extern.Stop Go.Stop Go.Extern

/-- What errors.errorType holds. -/
def Handle (w : World) : Prop := w.cell? ⟨0, 0, none⟩ = some (.iface 190 (.agg #[.pointer (some ⟨9, 25, none⟩)]))
theorem Handle.chg {S : Nat → Prop} {w w' : World} (h : Handle w) (hc : Chg S w w') (hn : ¬ S 0) : Handle w' := hc.cell h hn

theorem as_valueOfP (t : Addr) (w : World) : (ReflectliteValue.unpack (.iface 143 (.pointer (some t)))).run Tryz.prog w
    = .ok (.agg #[.pointer (some ⟨9, 143, none⟩), .pointer (some ⟨w.heap.size, 0, none⟩), .int .u64 150]) (w.alloc (.cells #[.pointer (some t)] 143)) := by kernel_rfl
theorem as_typeP (a : Addr) (w : World) : (ReflectliteValue.methodAny (ReflectliteValue.valueError "reflectlite.Value.Type" 0) (fun t _ _ _ => ReflectliteType.toType t) #[.agg #[.pointer (some ⟨9, 143, none⟩), .pointer (some a), .int .u64 150]]).run Tryz.prog w
    = .ok (.iface 190 (.agg #[.pointer (some ⟨9, 143, none⟩)])) w := by kernel_rfl
theorem as_methodKind (h : Value) (w : World) : (Go.method 354 190 (.agg #[h]) "Kind").run Tryz.prog w = .ok (162, h) w := by kernel_rfl
theorem as_kindP (w : World) : ((ReflectliteType.abiMethod fun t => (fun a : Nat => Value.int IntKind.u8 (a : Int)) <$> Rtype.kind t) #[.pointer (some ⟨9, 143, none⟩)]).run Tryz.prog w = .ok (.int .u8 22) w := by kernel_rfl
theorem as_kindE (w : World) : ((ReflectliteType.abiMethod fun t => (fun a : Nat => Value.int IntKind.u8 (a : Int)) <$> Rtype.kind t) #[.pointer (some ⟨9, 32, none⟩)]).run Tryz.prog w = .ok (.int .u8 2) w := by kernel_rfl
theorem as_rlm (z : Sem Value) (f : TypeId → Addr → Nat → Nat → Sem Value) (v : Value) :
    ReflectliteValue.method z f #[v] = (do match ← ReflectliteValue.parts v with | none => z | some (t, a, fl) => f t a fl (fl % 32)) := rfl
theorem as_partsP (a : Addr) (w : World) : (ReflectliteValue.parts (.agg #[.pointer (some ⟨9, 143, none⟩), .pointer (some a), .int .u64 150])).run Tryz.prog w = .ok (some (143, a, 150)) w := by kernel_rfl
theorem as_isNilP (a p : Addr) (W : World) (ha : W.cell? a = some (.pointer (some p))) :
    (ReflectliteValue.method (ReflectliteValue.valueError "reflectlite.Value.IsNil" 0) ReflectliteValue.isNil #[.agg #[.pointer (some ⟨9, 143, none⟩), .pointer (some a), .int .u64 150]]).run Tryz.prog W = .ok (.bool false) W := by
  rw [as_rlm]
  simp only [Sem.run_bind, as_partsP, Result.andThen]
  simp [ReflectliteValue.isNil, loadVar, isAgg, underlying, Tryz.underlying143, ha, Result.andThen]
theorem as_methodElem (h : Value) (w : World) : (Go.method 354 190 (.agg #[h]) "Elem").run Tryz.prog w = .ok (179, .agg #[h]) w := by kernel_rfl
theorem as_methodImplements (h : Value) (w : World) : (Go.method 354 190 (.agg #[h]) "Implements").run Tryz.prog w = .ok (180, .agg #[h]) w := by kernel_rfl
theorem as_methodAssignableTo (h : Value) (w : World) : (Go.method 354 190 (.agg #[h]) "AssignableTo").run Tryz.prog w = .ok (177, .agg #[h]) w := by kernel_rfl
theorem as_elemP (w : World) : (ReflectliteType.method ReflectliteType.elem #[.agg #[.pointer (some ⟨9, 143, none⟩)]]).run Tryz.prog w = .ok (.iface 190 (.agg #[.pointer (some ⟨9, 32, none⟩)])) w := by kernel_rfl
theorem as_implementsE (w : World) : (ReflectliteType.relation "Implements" ReflectliteType.implements_ #[.agg #[.pointer (some ⟨9, 32, none⟩)], .iface 190 (.agg #[.pointer (some ⟨9, 25, none⟩)])]).run Tryz.prog w = .ok (.bool true) w := by kernel_rfl
theorem as_typeOfE (v : Value) (w : World) : (ReflectliteType.typeOf #[.iface 32 v]).run Tryz.prog w = .ok (.iface 190 (.agg #[.pointer (some ⟨9, 32, none⟩)])) w := by kernel_rfl
theorem as_assignableE (w : World) : (ReflectliteType.relation "AssignableTo" ReflectliteType.assignableTo #[.agg #[.pointer (some ⟨9, 32, none⟩)], .iface 190 (.agg #[.pointer (some ⟨9, 32, none⟩)])]).run Tryz.prog w = .ok (.bool true) w := by kernel_rfl
theorem as_valueOfE (k : Int) (w : World) : (ReflectliteValue.unpack (.iface 32 (.int .i64 k))).run Tryz.prog w
    = .ok (.agg #[.pointer (some ⟨9, 32, none⟩), .pointer (some ⟨w.heap.size, 0, none⟩), .int .u64 130]) (w.alloc (.cells #[.int .i64 k] 32)) := by kernel_rfl
theorem as_elemOfP (w : World) : (Rtype.elem? 143).run Tryz.prog w = .ok (some 32) w := by kernel_rfl
theorem as_mkE (p : Addr) (w : World) : (ReflectliteValue.mk 32 p ReflectliteValue.flagAddr).run Tryz.prog w = .ok (.agg #[.pointer (some ⟨9, 32, none⟩), .pointer (some p), .int .u64 386]) w := by kernel_rfl
theorem as_elemVP (a p : Addr) (W : World) (ha : W.cell? a = some (.pointer (some p))) :
    (ReflectliteValue.method (ReflectliteValue.valueError "reflectlite.Value.Elem" 0) ReflectliteValue.elem #[.agg #[.pointer (some ⟨9, 143, none⟩), .pointer (some a), .int .u64 150]]).run Tryz.prog W
      = .ok (.agg #[.pointer (some ⟨9, 32, none⟩), .pointer (some p), .int .u64 386]) W := by
  rw [as_rlm]
  simp only [Sem.run_bind, as_partsP, Result.andThen]
  simp [ReflectliteValue.elem, loadVar, isAgg, underlying, Tryz.underlying143, ha, Result.andThen, as_elemOfP, as_mkE]
theorem as_rls (v x : Value) : ReflectliteValue.set #[v, x] = (do
    let (some (dst, a, fl), some (src, b, _)) := (← ReflectliteValue.parts v, ← ReflectliteValue.parts x)
      | unsupported (.noEntry "extern/(internal/reflectlite.Value).Set.zeroValue")
    if fl / ReflectliteValue.flagAddr % 2 == 0 then unsupported (.noEntry "extern/(internal/reflectlite.Value).Set.unaddressable")
    let val ← loadVar src b
    if ← Rtype.directlyAssignable dst src then storeVar dst a val
    else if ← Rtype.implements dst src then
      if (← Rtype.kind src) == 20 then
        match val with
        | .nilIface => unsupported (.noEntry "extern/reflectlite: a nil value of one interface type handed on as a value of another")
        | _ => storeVar dst a val
      else storeVar dst a (.iface src val)
    else panicString ("reflectlite.Set: value of type " ++ (← Rtype.spelt src) ++ " is not assignable to type " ++ (← Rtype.spelt dst))
    pure (.tuple #[])) := rfl
theorem as_partsEa (a : Addr) (w : World) : (ReflectliteValue.parts (.agg #[.pointer (some ⟨9, 32, none⟩), .pointer (some a), .int .u64 386])).run Tryz.prog w = .ok (some (32, a, 386)) w := by kernel_rfl
theorem as_partsE (a : Addr) (w : World) : (ReflectliteValue.parts (.agg #[.pointer (some ⟨9, 32, none⟩), .pointer (some a), .int .u64 130])).run Tryz.prog w = .ok (some (32, a, 130)) w := by kernel_rfl
theorem as_directE (w : World) : (Rtype.directlyAssignable 32 32).run Tryz.prog w = .ok true w := by kernel_rfl
theorem as_setE (ta b : Addr) (k : Int) (old : Value) (W : World) (hb : W.cell? b = some (.int .i64 k)) (ht : W.cell? ta = some old) (hf : W.frozen? ta = false) :
    (ReflectliteValue.set #[.agg #[.pointer (some ⟨9, 32, none⟩), .pointer (some ta), .int .u64 386], .agg #[.pointer (some ⟨9, 32, none⟩), .pointer (some b), .int .u64 130]]).run Tryz.prog W
      = .ok (.tuple #[]) (W.setCell ta (.int .i64 k)) := by
  rw [as_rls]
  simp only [Sem.run_bind, as_partsEa, as_partsE, Result.andThen]
  simp [ReflectliteValue.flagAddr, loadVar, isAgg, underlying, Tryz.underlying32, hb, Result.andThen, as_directE, storeVar, Value.cells, storeCells, Addr.add]
  rw [run_store Tryz.prog W ta _ _ (by rfl)]
  simp [ht, hf]

set_option maxHeartbeats 4000000 in
set_option maxRecDepth 100000 in
theorem as_hit (k : Int) (t : Addr) (old : Value) (w : World) (hg : Handle w) (ht0 : w.cell? t = some old) (hf0 : w.frozen? t = false) :
    Calls Tryz.prog 85 #[.iface 32 (.int .i64 k), .iface 143 (.pointer (some t))] w fun ev w' => ev = .returned (.bool true) ∧ w' = ((((w.alloc (.cells #[.pointer (some t)] 143)).alloc (.cells #[.pointer (some ⟨9, 143, none⟩), .pointer (some ⟨w.heap.size, 0, none⟩), .int .u64 150] 164)).alloc (.cells #[.pointer (some ⟨9, 143, none⟩), .pointer (some ⟨w.heap.size, 0, none⟩), .int .u64 150] 164)).alloc (.cells #[.int .i64 k] 32)).setCell t (.int .i64 k) := by
  unfold Handle at hg
  have h6 := @run_callFunc_extern Tryz.prog 104 _ (fun args => ReflectliteValue.unpack (args.getD 0 (.tuple #[]))) Tryz.func104 (by kernel_rfl) (by kernel_rfl) (by kernel_rfl) (by kernel_rfl)
  have h7 := @run_callFunc_extern Tryz.prog 105 _ (ReflectliteValue.methodAny (ReflectliteValue.valueError "reflectlite.Value.Type" 0) (fun t _ _ _ => ReflectliteType.toType t)) Tryz.func105 (by kernel_rfl) (by kernel_rfl) (by kernel_rfl) (by kernel_rfl)
  have h8 := @run_callFunc_extern Tryz.prog 106 _ (ReflectliteValue.method (ReflectliteValue.valueError "reflectlite.Value.IsNil" 0) ReflectliteValue.isNil) Tryz.func106 (by kernel_rfl) (by kernel_rfl) (by kernel_rfl) (by kernel_rfl)
  have h27 := @run_callFunc_extern Tryz.prog 162 _ (ReflectliteType.abiMethod fun t => do pure (.int .u8 (← Rtype.kind t))) Tryz.func162 (by kernel_rfl) (by kernel_rfl) (by kernel_rfl) (by kernel_rfl)
  have h37 := @run_callFunc_extern Tryz.prog 179 _ (ReflectliteType.method ReflectliteType.elem) Tryz.func179 (by kernel_rfl) (by kernel_rfl) (by kernel_rfl) (by kernel_rfl)
  have h38 := @run_callFunc_extern Tryz.prog 180 _ (ReflectliteType.relation "Implements" ReflectliteType.implements_) Tryz.func180 (by kernel_rfl) (by kernel_rfl) (by kernel_rfl) (by kernel_rfl)
  have h10 := @run_callFunc_extern Tryz.prog 124 _ ReflectliteType.typeOf Tryz.func124 (by kernel_rfl) (by kernel_rfl) (by kernel_rfl) (by kernel_rfl)
  have h35 := @run_callFunc_extern Tryz.prog 177 _ (ReflectliteType.relation "AssignableTo" ReflectliteType.assignableTo) Tryz.func177 (by kernel_rfl) (by kernel_rfl) (by kernel_rfl) (by kernel_rfl)
  have h11 := @run_callFunc_extern Tryz.prog 125 _ (ReflectliteValue.method (ReflectliteValue.valueError "reflectlite.Value.Elem" 0) ReflectliteValue.elem) Tryz.func125 (by kernel_rfl) (by kernel_rfl) (by kernel_rfl) (by kernel_rfl)
  have h12 := @run_callFunc_extern Tryz.prog 126 _ ReflectliteValue.set Tryz.func126 (by kernel_rfl) (by kernel_rfl) (by kernel_rfl) (by kernel_rfl)
  have tO := as_typeOfE
  have mA := as_methodAssignableTo
  have aE := as_assignableE
  have vE := as_valueOfE
  have f6 := as_valueOfP
  have f7 := as_typeP
  have mK := as_methodKind
  have mE := as_methodElem
  have mI := as_methodImplements
  have kP := as_kindP
  have kE := as_kindE
  have eP := as_elemP
  have iE := as_implementsE
  have n8 := as_isNilP ⟨w.heap.size, 0, none⟩ t ((w.alloc (.cells #[.pointer (some t)] 143)).alloc (.cells #[.pointer (some ⟨9, 143, none⟩), .pointer (some ⟨w.heap.size, 0, none⟩), .int .u64 150] 164)) (by simp)
  have hlt : 0 < w.heap.size := World.block_lt_of_cell? _ _ hg
  have hg2 : ((w.alloc (.cells #[.pointer (some t)] 143)).alloc (.cells #[.pointer (some ⟨9, 143, none⟩), .pointer (some ⟨w.heap.size, 0, none⟩), .int .u64 150] 164)).cell? ⟨0, 0, none⟩ = some (.iface 190 (.agg #[.pointer (some ⟨9, 25, none⟩)])) := by
    rw [World.cell?_alloc_lt _ _ ⟨0, 0, none⟩ (by rw [World.size_alloc]; exact Nat.lt_succ_of_lt hlt), World.cell?_alloc_lt _ _ ⟨0, 0, none⟩ hlt]; exact hg
  have htl : t.block < w.heap.size := by
    rcases Nat.lt_or_ge t.block w.heap.size with h | h
    · exact h
    · simp [World.cell?, Array.getElem?_eq_none h] at ht0
  have el := as_elemVP ⟨w.heap.size, 0, none⟩ t (((w.alloc (.cells #[.pointer (some t)] 143)).alloc (.cells #[.pointer (some ⟨9, 143, none⟩), .pointer (some ⟨w.heap.size, 0, none⟩), .int .u64 150] 164)).alloc (.cells #[.pointer (some ⟨9, 143, none⟩), .pointer (some ⟨w.heap.size, 0, none⟩), .int .u64 150] 164)) (by rw [World.cell?_alloc_lt _ _ ⟨w.heap.size, 0, none⟩ (by simp; omega)]; simp)
  have st := as_setE t ⟨w.heap.size + 1 + 1 + 1, 0, none⟩ k old ((((w.alloc (.cells #[.pointer (some t)] 143)).alloc (.cells #[.pointer (some ⟨9, 143, none⟩), .pointer (some ⟨w.heap.size, 0, none⟩), .int .u64 150] 164)).alloc (.cells #[.pointer (some ⟨9, 143, none⟩), .pointer (some ⟨w.heap.size, 0, none⟩), .int .u64 150] 164)).alloc (.cells #[.int .i64 k] 32))
    (by rw [World.cell?_alloc_at _ _ _ _ (by simp)]; rfl)
    (by rw [World.cell?_alloc_lt _ _ t (by simp; omega), World.cell?_alloc_lt _ _ t (by simp; omega), World.cell?_alloc_lt _ _ t (by simp; omega), World.cell?_alloc_lt _ _ t htl]; exact ht0)
    (by rw [World.frozen?_alloc_old _ _ t (by simp; omega), World.frozen?_alloc_old _ _ t (by simp; omega), World.frozen?_alloc_old _ _ t (by simp; omega), World.frozen?_alloc_old _ _ t (Nat.ne_of_lt htl)]; exact hf0)
  go_enter Tryz.func85, Tryz.ntmps85
  go_wp2
  refine wp_loop_rounds 1 ?_
  rw [rounds_succ]
  go_wp2
  go_ret
  exact ⟨rfl, rfl⟩
end Go.Proofs.YtmaomebnigcgeaaGreatDoor

/-
  api.Tell, plain.Bare and the law's 'bare' at nil and at an Errno.
-/
namespace Go.Proofs.YtmaomebnigcgeaaGreatDoor
open Go.RowKit Go.Extern.Stop Go.Stop Go.Extern

theorem tell_nil (w : World) : Calls Tryz.prog 61 #[.nilIface] w fun e w' => e = .returned (.int .i64 0) ∧ w = w' := by
  go_enter Tryz.func61, Tryz.ntmps61
  go_wp2
  go_ret
  exact ⟨rfl, rfl⟩
theorem tell_errno (k : Int) (w : World) (hg : Handle w) : Calls Tryz.prog 61 #[.iface 32 (.int .i64 k)] w fun e w' => e = .returned (.int .i64 k) ∧ Chg Nil w w' := by
  have hlt : 0 < w.heap.size := World.block_lt_of_cell? _ _ hg
  go_enter Tryz.func61, Tryz.ntmps61
  go_wp2_with (go_at_call 85; refine (as_hit k ⟨w.heap.size, 0, none⟩ (.int .i64 0) _ (hg.chg ((Chg.refl Nil w).alloc _) (fun h => h)) ?_ ?_).mono ?_; (simp); (simp); rintro e w' ⟨rfl, rfl⟩)
  go_ret
  refine ⟨rfl, ?_⟩
  exact (((((Chg.refl Nil w).alloc _).alloc _).alloc _).alloc _).alloc _

theorem bare_nil (w : World) : Calls Tryz.prog 37 #[.nilIface] w fun e w' => e = .returned (.tuple #[.int .i64 0, .bool true]) ∧ w = w' := by
  go_enter Tryz.func37, Tryz.ntmps37
  go_wp2_with (go_at_call 61; refine (tell_nil _).mono ?_; rintro e w' ⟨rfl, rfl⟩)
  refine wp_loop_rounds 1 ?_
  rw [rounds_succ]
  go_wp2
  go_ret2
  exact ⟨rfl, rfl⟩
theorem assert_at (k : Int) (w : World) : (Instr.typeAssert (.iface 32 (.int .i64 k)) 25 113 true).run Tryz.prog w = .ok (.tuple #[.pointer none, .bool false]) w := by kernel_rfl
theorem assert_unwrap (v : Value) (w : World) : (Instr.typeAssert (.iface 32 v) 25 115 true).run Tryz.prog w = .ok (.tuple #[.nilIface, .bool false]) w :=
  run_typeAssert_lacksB Tryz.underlying115 (by kernel_rfl) (by kernel_rfl) v 25 w

set_option maxRecDepth 100000 in
theorem bare_errno (k : Int) (w : World) (hg : Handle w) : Calls Tryz.prog 37 #[.iface 32 (.int .i64 k)] w fun e w' => e = .returned (.tuple #[.int .i64 k, .bool true]) ∧ Chg Nil w w' := by
  have ta := assert_at
  have tu := assert_unwrap
  go_enter Tryz.func37, Tryz.ntmps37
  go_wp2_with fail
  refine (tell_errno k w hg).mono ?_
  rintro e w1 ⟨rfl, hc⟩
  go_wp2_with fail
  refine wp_loop_rounds 1 ?_
  rw [rounds_succ]
  go_wp2
  go_ret2
  exact ⟨rfl, hc⟩

set_option maxRecDepth 100000 in
theorem lawBare_any (k : Nat) (w : World) (hg : Handle w) : Calls Tryz.prog 7 #[errV 32 k, .int .i64 (k : Int)] w fun e w' => e = .returned (.bool true) ∧ Chg Nil w w' := by
  by_cases h0 : k = 0
  · subst h0
    show Calls Tryz.prog 7 #[.nilIface, .int .i64 0] w _
    go_enter Tryz.func7, Tryz.ntmps7
    go_wp2_with fail
    refine (bare_nil w).mono ?_
    rintro e w1 ⟨rfl, rfl⟩
    go_wp2_with fail
    go_ret
    exact ⟨rfl, Chg.refl _ _⟩
  · have he : errV 32 k = .iface 32 (.int .i64 (k : Int)) := if_neg h0
    rw [he]
    clear he h0
    go_enter Tryz.func7, Tryz.ntmps7
    go_wp2_with fail
    refine (bare_errno k w hg).mono ?_
    rintro e w1 ⟨rfl, hc⟩
    go_wp2_with fail
    go_ret
    exact ⟨rfl, hc⟩
end Go.Proofs.YtmaomebnigcgeaaGreatDoor

/-
  The walk of RecordBack.
-/
namespace Go.Proofs.YtmaomebnigcgeaaGreatDoor
open Go.RowKit

/-- What stands behind a batch's bytes is not looked at; and less than all of them is not whole. -/
theorem back_more {base en : Int} {rs : List Rec} (h : encErr base en rs = 0) (more : List UInt8) :
    decErr (encAll base en rs ++ more) = 0 ∧ fromB (encAll base en rs ++ more) = (encAll base en rs).length ∧ (encAll base en rs ++ more).take (fromB (encAll base en rs ++ more)) = encAll base en rs := by
  obtain ⟨h0, hl, hf, hp⟩ := decErr_enc h
  have hlo : 8 ≤ (encAll base en rs).length := by omega
  have hfm : fromB (encAll base en rs ++ more) = fromB (encAll base en rs) := by
    have hg : ∀ j, j < 4 → (encAll base en rs ++ more).getD j 0 = (encAll base en rs).getD j 0 := by
      intro j hj
      simp only [List.getD_eq_getElem?_getD, List.getElem?_append_left (show j < (encAll base en rs).length by omega)]
    rw [fromB_eq, fromB_eq, hg 0 (by omega), hg 1 (by omega), hg 2 (by omega), hg 3 (by omega)]
  have hfl : fromB (encAll base en rs) = (encAll base en rs).length := by omega
  have hd4 : fromB ((encAll base en rs ++ more).drop 4) = fromB ((encAll base en rs).drop 4) := by
    have hg : ∀ j, j < 4 → ((encAll base en rs ++ more).drop 4).getD j 0 = ((encAll base en rs).drop 4).getD j 0 := by
      intro j hj
      simp only [List.getD_eq_getElem?_getD, List.getElem?_drop, List.getElem?_append_left (show 4 + j < (encAll base en rs).length by omega)]
    rw [fromB_eq, fromB_eq, hg 0 (by omega), hg 1 (by omega), hg 2 (by omega), hg 3 (by omega)]
  have ht : (encAll base en rs ++ more).take (fromB (encAll base en rs ++ more)) = encAll base en rs := by
    rw [hfm, hfl]; exact List.take_left' rfl
  refine ⟨?_, by rw [hfm, hfl], ht⟩
  have h0' := h0
  unfold decErr at h0' ⊢
  rw [ht, hd4, hfm]
  rw [List.take_of_length_le (by omega)] at h0'
  by_cases g1 : (encAll base en rs).length < 8
  · omega
  rw [if_neg g1] at h0'
  rw [if_neg (by rw [List.length_append]; omega)]
  by_cases g2 : fromB (encAll base en rs) < 11 ∨ 6000 < fromB (encAll base en rs)
  · rw [if_pos g2] at h0'; cases h0'
  rw [if_neg g2] at h0' ⊢
  rw [if_neg (by omega)] at h0'
  rw [if_neg (by rw [List.length_append]; omega)]
  exact h0'
theorem back_less {base en : Int} {rs : List Rec} (h : encErr base en rs = 0) {k : Nat} (hk : k < (encAll base en rs).length) : decErr ((encAll base en rs).take k) = 12 := by
  obtain ⟨h0, hl, hf, hp⟩ := decErr_enc h
  have hlen : ((encAll base en rs).take k).length = k := by rw [List.length_take]; omega
  unfold decErr
  by_cases g1 : k < 8
  · rw [if_pos (by omega)]
  · rw [if_neg (by omega)]
    have hfm : fromB ((encAll base en rs).take k) = fromB (encAll base en rs) := by
      have hg : ∀ j, j < 4 → ((encAll base en rs).take k).getD j 0 = (encAll base en rs).getD j 0 := by
        intro j hj
        simp only [List.getD_eq_getElem?_getD, List.getElem?_take, if_pos (show j < k by omega)]
      rw [fromB_eq, fromB_eq, hg 0 (by omega), hg 1 (by omega), hg 2 (by omega), hg 3 (by omega)]
    rw [hfm]
    have g2 : ¬ (fromB (encAll base en rs) < 11 ∨ 6000 < fromB (encAll base en rs)) := by
      intro g
      unfold decErr at h0
      rw [if_neg (by omega), if_pos g] at h0
      cases h0
    rw [if_neg g2, if_pos (by omega)]

theorem numbered_ok' {base : Int} {rs : List Rec} (h0 : 0 ≤ base) (h1 : base + rs.length ≤ 9223372036854775807) (h : ∀ r ∈ rs, r.Ok) : ∀ r ∈ numbered base rs, r.Ok := by
  induction rs generalizing base with
  | nil => simp [numbered]
  | cons x rs ih =>
    intro r hr
    simp only [List.length_cons] at h1
    rcases List.mem_cons.1 hr with rfl | hr
    · have hx := h x (by simp)
      exact ⟨by simp only; omega, hx.time, hx.key, hx.value⟩
    · exact ih (by omega) (by push_cast at h1; omega) (fun y hy => h y (by simp [hy])) r hr



end Go.Proofs.YtmaomebnigcgeaaGreatDoor

/-
  A segment's batches, plain: where they lie, what its file is, what Open finds again.
-/
set_option linter.unusedSimpArgs false
set_option linter.unusedVariables false
namespace Go.Proofs.YtmaomebnigcgeaaGreatDoor
open Go.RowKit

/-- A batch. -/
structure Bt where
  base : Int
  en : Int
  rs : List Rec
def Bt.bytes (b : Bt) : List UInt8 := encAll b.base b.en b.rs
structure Bt.Ok (b : Bt) : Prop where
  err : encErr b.base b.en b.rs = 0
  recs : ∀ r ∈ b.rs, Rec.Ok r
structure Bt.Nums (b : Bt) : Prop where
  lo : 0 ≤ b.base
  lt : b.base < b.en
  hi : b.en ≤ 1099511627776
  few : b.rs.length ≤ 50
  len : b.bytes.length ≤ 6000
  some : 11 ≤ b.bytes.length
theorem checked_of_enc {base en : Int} {rs : List Rec} (h : encErr base en rs = 0) : checkB base en rs = 0 := by
  unfold encErr at h
  by_cases hc : checkB base en rs = 0
  · exact hc
  · rw [if_pos hc] at h; exact absurd h hc
theorem Bt.Ok.nums {b : Bt} (h : b.Ok) : b.Nums := by
  have hc := checked_of_enc h.err
  obtain ⟨h0, hl, hf, hp⟩ := decErr_enc h.err
  have h0' := h0
  unfold decErr at h0'
  unfold checkB at hc
  by_cases g1 : b.base < 0 ∨ 1099511627776 < b.en
  · rw [if_pos g1] at hc; cases hc
  rw [if_neg g1] at hc
  by_cases g2 : b.en ≤ b.base
  · rw [if_pos g2] at hc; cases hc
  rw [if_neg g2] at hc
  by_cases g3 : 50 < b.rs.length ∨ 50 < b.en - b.base
  · rw [if_pos g3] at hc; cases hc
  by_cases g4 : (encAll b.base b.en b.rs).length < 8
  · rw [if_pos g4] at h0'; cases h0'
  rw [if_neg g4] at h0'
  by_cases g5 : fromB (encAll b.base b.en b.rs) < 11 ∨ 6000 < fromB (encAll b.base b.en b.rs)
  · rw [if_pos g5] at h0'; cases h0'
  have e : b.bytes.length = (encAll b.base b.en b.rs).length := rfl
  exact ⟨by omega, by omega, by omega, by omega, by omega, by omega⟩

def batBs (l : List Bt) : List UInt8 := l.flatMap Bt.bytes
theorem batBs_cons (b : Bt) (l : List Bt) : batBs (b :: l) = b.bytes ++ batBs l := List.flatMap_cons
theorem batBs_append (l m : List Bt) : batBs (l ++ m) = batBs l ++ batBs m := List.flatMap_append
theorem batBs_snoc (l : List Bt) (b : Bt) : batBs (l ++ [b]) = batBs l ++ b.bytes := by rw [batBs_append, batBs_cons]; simp [batBs]
/-- Where the batches lie, from a place on. -/
def plsOf : Nat → List Bt → List Pl
  | _, [] => []
  | n, b :: l => ⟨n, b.bytes.length, b.base, b.en, timeOf b.rs⟩ :: plsOf (n + b.bytes.length) l
theorem plsOf_length : ∀ (n : Nat) (l : List Bt), (plsOf n l).length = l.length
  | _, [] => rfl
  | n, b :: l => by rw [plsOf, List.length_cons, plsOf_length, List.length_cons]
theorem plsOf_snoc : ∀ (n : Nat) (l : List Bt) (b : Bt), plsOf n (l ++ [b]) = plsOf n l ++ [⟨n + (batBs l).length, b.bytes.length, b.base, b.en, timeOf b.rs⟩]
  | n, [], b => by simp [plsOf, batBs]
  | n, a :: l, b => by
    rw [List.cons_append, plsOf, plsOf_snoc, plsOf, batBs_cons, List.length_append, List.cons_append, Nat.add_assoc]
theorem plsOf_get : ∀ (n : Nat) (l : List Bt) (i : Nat) (hi : i < l.length), (plsOf n l)[i]? = some ⟨n + (batBs (l.take i)).length, l[i].bytes.length, l[i].base, l[i].en, timeOf l[i].rs⟩
  | n, [], i, hi => by simp at hi
  | n, a :: l, 0, hi => by simp [plsOf, batBs]
  | n, a :: l, i + 1, hi => by
    rw [plsOf, List.getElem?_cons_succ, plsOf_get _ l i (by simpa using hi), List.take_succ_cons, batBs_cons, List.length_append, Nat.add_assoc]
    rfl
/-- One behind the other, from an offset on. -/
def rising : Int → List Bt → Prop
  | _, [] => True
  | n, b :: l => n ≤ b.base ∧ rising b.en l
def lastEnd : Int → List Bt → Int
  | n, [] => n
  | _, b :: l => lastEnd b.en l
theorem lastEnd_snoc : ∀ (n : Int) (l : List Bt) (b : Bt), lastEnd n (l ++ [b]) = b.en
  | _, [], _ => rfl
  | _, a :: l, b => lastEnd_snoc a.en l b
theorem rising_snoc : ∀ {n : Int} {l : List Bt} {b : Bt}, rising n l → lastEnd n l ≤ b.base → rising n (l ++ [b])
  | _, [], _, _, h => ⟨h, trivial⟩
  | _, a :: l, b, h, h2 => ⟨h.1, rising_snoc h.2 h2⟩
theorem rising_take : ∀ {n : Int} {l : List Bt} (k : Nat), rising n l → rising n (l.take k)
  | _, [], k, _ => by rw [List.take_nil]; trivial
  | _, a :: l, 0, _ => trivial
  | _, a :: l, k + 1, h => ⟨h.1, rising_take k h.2⟩
theorem rising_next : ∀ {n : Int} {l : List Bt} {i : Nat} (hi : i < l.length), rising n l → lastEnd n (l.take i) ≤ l[i].base
  | _, a :: l, 0, _, h => h.1
  | _, a :: l, i + 1, hi, h => rising_next (n := a.en) (l := l) (i := i) (by simpa using hi) h.2
theorem rising_mem : ∀ {n : Int} {l : List Bt}, (∀ b ∈ l, b.Ok) → rising n l → ∀ b ∈ l, n ≤ b.base
  | _, [], _, _, b, hb => by cases hb
  | n, a :: l, hok, h, b, hb => by
    rcases List.mem_cons.1 hb with rfl | hb
    · exact h.1
    · have h1 := rising_mem (fun b hb => hok b (List.mem_cons_of_mem _ hb)) h.2 b hb
      have h2 := (hok a (List.mem_cons_self ..)).nums.lt
      have := h.1
      omega
theorem rising_lt : ∀ {n : Int} {l : List Bt}, (∀ b ∈ l, b.Ok) → rising n l → ∀ {i j : Nat} (hj : j < l.length) (hij : i < j), (l[i]'(Nat.lt_trans hij hj)).en ≤ l[j].base
  | n, a :: l, hok, h, 0, j + 1, hj, _ => rising_mem (fun b hb => hok b (List.mem_cons_of_mem _ hb)) h.2 _ (List.getElem_mem _)
  | n, a :: l, hok, h, i + 1, j + 1, hj, hij => rising_lt (l := l) (fun b hb => hok b (List.mem_cons_of_mem _ hb)) h.2 (by simpa using hj) (by omega)
theorem lastEnd_le : ∀ {n : Int} {l : List Bt}, (∀ b ∈ l, b.Ok) → rising n l → n ≤ lastEnd n l ∧ ∀ b ∈ l, b.en ≤ lastEnd n l
  | n, [], _, _ => ⟨Int.le_refl _, fun b hb => by cases hb⟩
  | n, a :: l, hok, h => by
    have h1 := lastEnd_le (fun b hb => hok b (List.mem_cons_of_mem _ hb)) h.2
    have h2 := (hok a (List.mem_cons_self ..)).nums.lt
    have := h.1
    refine ⟨by show n ≤ lastEnd a.en l; omega, fun b hb => ?_⟩
    rcases List.mem_cons.1 hb with rfl | hb
    · exact h1.1
    · exact h1.2 b hb

/-- The segment has these batches. -/
structure SgOf (g : Sg) (l : List Bt) : Prop where
  pls : g.pls = plsOf 0 l
  size : g.size = (batBs l).length
  ok : ∀ b ∈ l, b.Ok
  up : rising g.base l
theorem SgOf.next {g : Sg} {l : List Bt} (h : SgOf g l) : g.next = lastEnd g.base l := by
  unfold Sg.next
  rw [h.pls]
  rcases List.eq_nil_or_concat l with rfl | ⟨m, b, rfl⟩
  · rfl
  · rw [List.concat_eq_append, plsOf_snoc, lastEnd_snoc]
    simp
theorem SgOf.noted {g : Sg} {l : List Bt} (h : SgOf g l) {b : Bt} (hb : b.Ok) (hn : g.next ≤ b.base) : SgOf (g.noted b.base b.en b.rs b.bytes.length) (l ++ [b]) := by
  refine ⟨?_, ?_, ?_, rising_snoc h.up (by have h1 := h.next; show lastEnd g.base l ≤ b.base; omega)⟩
  · show g.pls ++ [_] = _
    rw [plsOf_snoc, h.pls, h.size, Nat.zero_add]
  · show g.size + b.bytes.length = _
    rw [batBs_snoc, List.length_append, h.size]
  · intro c hc
    rcases List.mem_append.1 hc with hc | hc
    · exact h.ok c hc
    · rw [List.mem_singleton.1 hc]; exact hb
/-- What Decode makes of a batch's bytes, whatever stands behind them. -/
theorem parse_more {b : Bt} (h : b.Ok) (more : List UInt8) : decErr (b.bytes ++ more) = 0 ∧ fromB (b.bytes ++ more) = b.bytes.length ∧ (parse (((b.bytes ++ more).take (fromB (b.bytes ++ more))).drop 8)) = ⟨b.base.toNat, (b.en - b.base).toNat, b.rs, ([], false)⟩ := by
  obtain ⟨h1, h2, h3⟩ := back_more h.err more
  obtain ⟨h0, hl, hf, hp⟩ := decErr_enc h.err
  refine ⟨h1, h2, ?_⟩
  rw [hf, ← hl, List.take_of_length_le (Nat.le_refl _)] at hp
  show parse ((List.take (fromB (encAll b.base b.en b.rs ++ more)) (encAll b.base b.en b.rs ++ more)).drop 8) = _
  rw [h3, hp]
/-- What Decode makes of bytes (nothing, if they are no batch). -/
structure DecV where
  base : Int
  en : Int
  n : Nat
  rs : List Rec
def decOut (l : List UInt8) : DecV :=
  if decErr l = 0 then ⟨((parse ((l.take (fromB l)).drop 8)).base : Nat), ((parse ((l.take (fromB l)).drop 8)).base : Int) + ((parse ((l.take (fromB l)).drop 8)).len : Nat), fromB l, (parse ((l.take (fromB l)).drop 8)).recs⟩ else ⟨0, 0, 0, []⟩
theorem decOut_bad {l : List UInt8} (h : decErr l ≠ 0) : decOut l = ⟨0, 0, 0, []⟩ := if_neg h
theorem decOut_whole {b : Bt} (h : b.Ok) (more : List UInt8) : decErr (b.bytes ++ more) = 0 ∧ decOut (b.bytes ++ more) = ⟨b.base, b.en, b.bytes.length, b.rs⟩ := by
  obtain ⟨h1, h2, h3⟩ := parse_more h more
  have hn := h.nums
  refine ⟨h1, ?_⟩
  unfold decOut
  rw [if_pos h1, h3, h2]
  have e1 : ((b.base.toNat : Nat) : Int) = b.base := Int.toNat_of_nonneg hn.lo
  have e2 : (b.base.toNat : Int) + ((b.en - b.base).toNat : Nat) = b.en := by have := hn.lt; have := hn.lo; omega
  show DecV.mk ((b.base.toNat : Nat) : Int) ((b.base.toNat : Int) + ((b.en - b.base).toNat : Nat)) _ _ = _
  rw [e2, e1]
/-- What Decode's value is, in this world. -/
def DecIs (n : Nat) (l : List UInt8) (v : Value) (w : World) : Prop :=
  ∃ u, v = .tuple #[.agg #[.int .i64 (decOut l).base, .int .i64 (decOut l).en, u], .int .i64 ((decOut l).n : Nat), errV 32 (decErr l)] ∧ OwnR 55 w u (decOut l).rs ∧ ∀ k, u.ownBlock = some k → n ≤ k
theorem decode_out (a : Option Addr) (l : List UInt8) (cap : Nat) (w : World) (hcap : l.length ≤ cap) (hl : cap ≤ maxLen) (hb : BytesAt w a l) :
    Calls Tryz.prog 38 #[.slice a l.length cap] w fun e w' => ∃ v, e = .returned v ∧ DecIs w.heap.size l v w' ∧ Chg Nil w w' := by
  refine (decode_any a l cap w hcap hl hb).mono ?_
  rintro e w' ⟨hch, hd⟩
  rcases hd with ⟨hne, rfl⟩ | ⟨h0, v, rfl, hown, hnew⟩
  · refine ⟨_, rfl, ⟨.slice none 0 0, ?_, ?_, fun k hk => by cases hk⟩, hch⟩
    · rw [decOut_bad hne]; rfl
    · rw [decOut_bad hne]; exact OwnR.nil _ _
  · have e1 : decOut l = ⟨((parse ((l.take (fromB l)).drop 8)).base : Nat), ((parse ((l.take (fromB l)).drop 8)).base : Int) + ((parse ((l.take (fromB l)).drop 8)).len : Nat), fromB l, (parse ((l.take (fromB l)).drop 8)).recs⟩ := if_pos h0
    refine ⟨_, rfl, ⟨v, ?_, ?_, hnew⟩, hch⟩
    · rw [e1, h0]; rfl
    · rw [e1]; exact hown
/-- What is read of the file where a batch begins. -/
theorem read_at (l : List Bt) (junk : List UInt8) {i : Nat} (hi : i < l.length) : (batBs l ++ junk).drop (batBs (l.take i)).length = l[i].bytes ++ (batBs (l.drop (i + 1)) ++ junk) := by
  have e : l = l.take i ++ l[i] :: l.drop (i + 1) := by rw [List.getElem_cons_drop, List.take_append_drop]
  have e2 : batBs l = batBs (l.take i) ++ (l[i].bytes ++ batBs (l.drop (i + 1))) := by
    conv => lhs; rw [e]
    rw [batBs_append, batBs_cons]
  rw [e2, List.append_assoc, List.drop_left' rfl, List.append_assoc]
end Go.Proofs.YtmaomebnigcgeaaGreatDoor

/-
  What a segment's Read, Since and Rewrite make of its batches, plain.
-/
set_option linter.unusedSimpArgs false
set_option linter.unusedVariables false
namespace Go.Proofs.YtmaomebnigcgeaaGreatDoor
open Go.RowKit

/-- The first one, and further ones while all are at most so many bytes. -/
def readGo : Bool → Int → List Bt → List Bt
  | _, _, [] => []
  | fst, most, b :: l => if fst = false ∧ most < (b.bytes.length : Int) then [] else b :: readGo false (wrap64 (most - (b.bytes.length : Nat))) l
def readL (l : List Bt) (frm most : Int) : List Bt := readGo true most (l.dropWhile fun b => decide (b.en ≤ frm))
def sinceL (l : List Bt) (t : Int) : Option Rec := (l.flatMap Bt.rs).find? fun r => decide (t ≤ r.time)
theorem readGo_sub : ∀ (f : Bool) (m : Int) (l : List Bt), ∀ b ∈ readGo f m l, b ∈ l
  | _, _, [], b, hb => hb
  | f, m, a :: l, b, hb => by
    unfold readGo at hb
    split at hb
    · cases hb
    · rcases List.mem_cons.1 hb with rfl | hb
      · exact List.mem_cons_self ..
      · exact List.mem_cons_of_mem _ (readGo_sub _ _ l b hb)
theorem readGo_len : ∀ (f : Bool) (m : Int) (l : List Bt), (readGo f m l).length ≤ l.length
  | _, _, [] => Nat.le_refl _
  | f, m, a :: l => by
    unfold readGo
    split
    · simp
    · have := readGo_len false (wrap64 (m - (a.bytes.length : Nat))) l
      simp only [List.length_cons]
      omega
/-- What a search for the first one that ends behind an offset finds. -/
theorem drop_search : ∀ {l : List Bt} {frm : Int} {k : Nat}, k ≤ l.length → (∀ i (h : i < l.length), i < k → l[i].en ≤ frm) → (∀ h : k < l.length, frm < l[k].en) → l.dropWhile (fun b => decide (b.en ≤ frm)) = l.drop k
  | [], _, k, hk, _, _ => by simp
  | b :: l, frm, 0, hk, h1, h2 => by
    have h3 : frm < b.en := h2 (by simp)
    rw [List.dropWhile_cons_of_neg (by simpa using h3)]
    rfl
  | b :: l, frm, k + 1, hk, h1, h2 => by
    have h3 : b.en ≤ frm := h1 0 (by simp) (by omega)
    rw [List.dropWhile_cons_of_pos (by simpa using h3), List.drop_succ_cons]
    exact drop_search (by simpa using hk) (fun i hi hik => h1 (i + 1) (by simpa using hi) (by omega)) (fun h => h2 (by simpa using h))
theorem en_mono {n : Int} {l : List Bt} (hok : ∀ b ∈ l, b.Ok) (h : rising n l) {i j : Nat} (hj : j < l.length) (hij : i ≤ j) : (l[i]'(Nat.lt_of_le_of_lt hij hj)).en ≤ l[j].en := by
  rcases Nat.lt_or_eq_of_le hij with hlt | rfl
  · have h1 := rising_lt hok h hj hlt
    have h2 := (hok l[j] (List.getElem_mem _)).nums.lt
    omega
  · exact Int.le_refl _
/-- What the law of a read counts. -/
def lawGo (frm : Int) : Int → List Bt → List Bt → List Bt
  | _, want, [] => want
  | most, want, b :: l =>
    if b.en ≤ frm ∧ want = [] then lawGo frm most want l
    else if want ≠ [] ∧ most < (b.bytes.length : Int) then want
    else lawGo frm (wrap64 (most - (b.bytes.length : Nat))) (want ++ [b]) l
theorem lawGo_on {frm : Int} : ∀ (l : List Bt) (most : Int) (want : List Bt), want ≠ [] → lawGo frm most want l = want ++ readGo false most l
  | [], most, want, h => by simp [lawGo, readGo]
  | b :: l, most, want, h => by
    unfold lawGo readGo
    rw [if_neg (fun g => h g.2)]
    by_cases g : most < (b.bytes.length : Int)
    · rw [if_pos ⟨h, g⟩, if_pos ⟨rfl, g⟩, List.append_nil]
    · rw [if_neg (fun k => g k.2), if_neg (fun k => g k.2), lawGo_on l _ _ (by simp), List.append_assoc]
      rfl
theorem lawGo_all (frm most : Int) : ∀ l : List Bt, lawGo frm most [] l = readL l frm most
  | [] => rfl
  | b :: l => by
    unfold lawGo readL
    by_cases g : b.en ≤ frm
    · rw [if_pos ⟨g, rfl⟩, List.dropWhile_cons_of_pos (by simpa using g), lawGo_all frm most l]
      rfl
    · rw [if_neg (fun k => g k.1), if_neg (fun k => k.1 rfl), List.dropWhile_cons_of_neg (by simpa using g), lawGo_on _ _ _ (by simp)]
      have e : readGo true most (b :: l) = b :: readGo false (wrap64 (most - (b.bytes.length : Nat))) l := by rw [readGo, if_neg (fun k => by cases k.1)]
      rw [e]
      rfl

/-- Only some of its records. -/
def Bt.keep (p : Rec → Bool) (b : Bt) : Bt := ⟨b.base, b.en, b.rs.filter p⟩
theorem checkRecs_filter (p : Rec → Bool) {en : Int} : ∀ {rs : List Rec} {last last' : Int}, checkRecs en last rs = 0 → last' ≤ last → checkRecs en last' (rs.filter p) = 0
  | [], _, _, _, _ => rfl
  | r :: rs, last, last', h, hl => by
    unfold checkRecs at h
    by_cases g1 : badArg last en r = true
    · rw [if_pos g1] at h; cases h
    rw [if_neg g1] at h
    by_cases g2 : badLen r = true
    · rw [if_pos g2] at h; cases h
    rw [if_neg g2] at h
    by_cases g3 : badTime r = true
    · rw [if_pos g3] at h; cases h
    rw [if_neg g3] at h
    have h4 : last < r.off := by
      unfold badArg at g1
      simp only [Bool.or_eq_true, decide_eq_true_eq, not_or] at g1
      omega
    cases hp : p r with
    | false =>
      rw [List.filter_cons_of_neg (by simp [hp])]
      exact checkRecs_filter p h (by omega)
    | true =>
      rw [List.filter_cons_of_pos hp]
      unfold checkRecs
      have g1' : ¬ badArg last' en r = true := by
        unfold badArg at g1 ⊢
        simp only [Bool.or_eq_true, decide_eq_true_eq, not_or] at g1 ⊢
        exact ⟨⟨⟨by omega, g1.1.1.2⟩, g1.1.2⟩, g1.2⟩
      rw [if_neg g1', if_neg g2, if_neg g3]
      exact checkRecs_filter p h (Int.le_refl _)
theorem put_mono : ∀ (m : Nat) {n : Nat}, n ≤ m → (put n).length ≤ (put m).length := by
  intro m
  induction m using Nat.strongRecOn with
  | _ m ih =>
    intro n h
    by_cases hm : m < 128
    · rw [put_lo hm, put_lo (n := n) (by omega)]; simp
    · by_cases hn : n < 128
      · rw [put_lo hn, put_hi (n := m) (by omega)]; simp
      · rw [put_hi (n := n) (by omega), put_hi (n := m) (by omega)]
        simp only [List.length_cons]
        have := ih (m / 128) (by omega) (n := n / 128) (by omega)
        omega
theorem encRecs_filter (p : Rec → Bool) (base : Int) : ∀ rs : List Rec, (encRecs base (rs.filter p)).length ≤ (encRecs base rs).length
  | [] => Nat.le_refl _
  | r :: rs => by
    have h := encRecs_filter p base rs
    cases hp : p r with
    | false =>
      rw [List.filter_cons_of_neg (by simp [hp])]
      simp only [encRecs, List.length_append]
      omega
    | true =>
      rw [List.filter_cons_of_pos hp]
      simp only [encRecs, List.length_append]
      omega
theorem encBody_filter (p : Rec → Bool) (base en : Int) (rs : List Rec) : (encBody base en (rs.filter p)).length ≤ (encBody base en rs).length := by
  have h1 := encRecs_filter p base rs
  have h2 := put_mono rs.length (List.length_filter_le p rs)
  unfold encBody encHead
  simp only [List.length_append]
  omega
theorem Bt.Ok.keep {b : Bt} (h : b.Ok) (p : Rec → Bool) : (b.keep p).Ok := by
  have hc := checked_of_enc h.err
  have hn := h.nums
  have he := h.err
  refine ⟨?_, fun r hr => h.recs r (List.mem_filter.1 hr).1⟩
  have hf := List.length_filter_le p b.rs
  have hb := encBody_filter p b.base b.en b.rs
  have hck : checkB b.base b.en (b.rs.filter p) = 0 := by
    unfold checkB at hc ⊢
    have g1 : ¬ (b.base < 0 ∨ 1099511627776 < b.en) := by have := hn.lo; have := hn.hi; omega
    have g2 : ¬ b.en ≤ b.base := by have := hn.lt; omega
    rw [if_neg g1, if_neg g2] at hc ⊢
    by_cases g3 : 50 < b.rs.length ∨ 50 < b.en - b.base
    · rw [if_pos g3] at hc; cases hc
    rw [if_neg g3] at hc
    rw [if_neg (by omega)]
    exact checkRecs_filter p hc (Int.le_refl _)
  unfold encErr at he
  rw [if_neg (by simpa using hc)] at he
  by_cases g : 6000 < 8 + (encBody b.base b.en b.rs).length
  · rw [if_pos g] at he; cases he
  show encErr b.base b.en (b.rs.filter p) = 0
  unfold encErr
  rw [if_neg (by simpa using hck), if_neg (by omega)]
theorem rising_map (f : Bt → Bt) (h1 : ∀ b, (f b).base = b.base) (h2 : ∀ b, (f b).en = b.en) : ∀ {n : Int} {l : List Bt}, rising n l → rising n (l.map f)
  | _, [], _ => trivial
  | _, b :: l, h => ⟨by rw [h1]; exact h.1, by rw [h2]; exact rising_map f h1 h2 h.2⟩
theorem lastEnd_map (f : Bt → Bt) (h2 : ∀ b, (f b).en = b.en) : ∀ {n : Int} {l : List Bt}, lastEnd n (l.map f) = lastEnd n l
  | _, [] => rfl
  | _, b :: l => by
    show lastEnd (f b).en (l.map f) = lastEnd b.en l
    rw [h2]; exact lastEnd_map f h2
end Go.Proofs.YtmaomebnigcgeaaGreatDoor

/-
  A region in which a block that is made in it is stored to: blocks of before stay as they are; one that was made since may turn if it is as it was made (Z).
-/
set_option linter.unusedSimpArgs false
set_option linter.unusedVariables false
namespace Go.Proofs.YtmaomebnigcgeaaGreatDoor
open Go.RowKit

structure ZR (n : Nat) (Z : Obj) (w w' : World) : Prop where
  os : w'.os = w.os
  tape : w'.tape = w.tape
  output : w'.output = w.output
  size : w.heap.size ≤ w'.heap.size
  block : ∀ k, k < w.heap.size → w'.heap[k]? = w.heap[k]? ∨ (n ≤ k ∧ w.heap[k]? = some Z)
theorem ZR.of {n : Nat} {Z : Obj} {w w' : World} (h : Chg Nil w w') : ZR n Z w w' := ⟨h.os, h.tape, h.output, h.size, fun k hk => .inl (h.block k hk (fun h => h))⟩
theorem ZR.refl {n : Nat} {Z : Obj} (w : World) : ZR n Z w w := .of (Chg.refl _ _)
theorem ZR.trans {n : Nat} {Z : Obj} {a b c : World} (h : ZR n Z a b) (k : ZR n Z b c) : ZR n Z a c := by
  refine ⟨k.os.trans h.os, k.tape.trans h.tape, k.output.trans h.output, Nat.le_trans h.size k.size, fun i hi => ?_⟩
  rcases h.block i hi with g | g
  · rcases k.block i (Nat.lt_of_lt_of_le hi h.size) with g2 | ⟨g1, g2⟩
    · exact .inl (g2.trans g)
    · exact .inr ⟨g1, by rw [← g]; exact g2⟩
  · exact .inr g
theorem ZR.nil {n : Nat} {Z : Obj} {w w' : World} (h : ZR n Z w w') (hn : w.heap.size ≤ n) : Chg Nil w w' :=
  ⟨h.os, h.tape, h.output, h.size, fun k hk _ => (h.block k hk).elim id (fun g => by omega)⟩
theorem ZR.store {n b : Nat} {Z : Obj} {w w' : World} (h : Chg (fun k => k = b) w w') (hb : n ≤ b) (hz : w.heap[b]? = some Z) : ZR n Z w w' :=
  ⟨h.os, h.tape, h.output, h.size, fun k hk => if e : k = b then .inr ⟨by omega, by rw [e]; exact hz⟩ else .inl (h.block k hk e)⟩
theorem ZR.at {n : Nat} {Z : Obj} {w w' : World} (h : ZR n Z w w') (k : Nat) (hk : w.heap[k]? ≠ some Z) : Chg (fun i => i ≠ k) w w' :=
  ⟨h.os, h.tape, h.output, h.size, fun i hi hn => by
    obtain rfl : i = k := Decidable.not_not.1 hn
    exact (h.block i hi).elim id (fun g => absurd g.2 hk)⟩
theorem ZR.all {n : Nat} {Z : Obj} {w w' : World} (h : ZR n Z w w') : Chg (fun _ => True) w w' := ⟨h.os, h.tape, h.output, h.size, fun _ _ h => absurd trivial h⟩
theorem ZR.ownsRow {n : Nat} {Z : Obj} {w w' : World} (h : ZR n Z w w') {e : TypeId} {sz len : Nat} {v : Value} {cells : List Value} (hv : w.ownsRow 0 e sz v len cells) (hne : ∀ cur, Z ≠ .cells cur e (0, 0)) : w'.ownsRow 0 e sz v len cells := by
  have hv2 := hv.2
  rcases hv2 with ⟨rfl, hn⟩ | ⟨g, cap, cur, rfl, _, hg, _⟩
  · exact ownsRow_chg hv h.all (fun k hk => by cases hk)
  · exact ownsRow_chg hv (h.at g (by rw [hg]; intro e; exact hne _ (Option.some.inj e).symm)) (fun k hk h => h (Option.some.inj hk).symm)
theorem ZR.bytes {n : Nat} {Z : Obj} {w w' : World} (h : ZR n Z w w') {a : Option Addr} {l : List UInt8} (hb : BytesAt w a l) (hZ : ∀ (b off : Nat) (x : UInt8), w.heap[b]? = some Z → w.cell? ⟨b, off, none⟩ ≠ some (bval x)) : BytesAt w' a l := by
  intro i hi
  obtain ⟨b, off, ha, hc⟩ := hb i hi
  refine ⟨b, off, ha, ?_⟩
  exact (h.at b (fun hz => hZ b _ _ hz hc)).cell hc (fun h => h rfl)
/-- A batch as it is made. -/
def batch0 : Obj := .cells #[.int .i64 0, .int .i64 0, .slice none 0 0] 41 (0, 0)
theorem batch0_byte {w : World} (b off : Nat) (x : UInt8) (h : w.heap[b]? = some batch0) : w.cell? ⟨b, off, none⟩ ≠ some (bval x) := by
  rw [cell_of_row w b off _ _ _ h]
  rcases off with _ | _ | _ | k
  · intro e; cases e
  · intro e; cases e
  · intro e; cases e
  · intro e; simp at e
theorem batch0_rec (cur : Array Value) : batch0 ≠ .cells cur 55 (0, 0) := by
  intro e
  unfold batch0 at e
  injection e with _ h2 _
  exact absurd h2 (by decide)

namespace Ch
section
variable {P : Program} {ops : Array Oper} {R : World → World → Prop} {C : List Nat} {F : List Value → World → Prop} {w0 : World} {Q : Exit → Act → World → Prop} {a0 : Act}
/-- A store into what the chain's first operation made. -/
theorem Walk.chainSx {β : Type} (G : β → Value) (H : β → World → Prop) (hG : ∀ v w, F [v] w → ∃ b, v = G b ∧ H b w) {js : List Nat} {E : List (List Nat)} {o : Oper} {os : List Oper} {specs : List Spec} (hd : o.dst = none) (hi : C[1]? = some specs.length)
    (h : ∀ w, R w0 w → ∀ b : β, H b w → ∀ N : Value → World → Prop, (∀ w', R w w' → F [G b, undef] w' → N undef w') → Ob P ops o N w (depsOf ops (chained C [G b] specs) js) a0)
    (hrest : Walk P ops R C F w0 Q a0 E os (specs ++ [Sum.inl undef])) : Walk P ops R C F w0 Q a0 (js :: E) (o :: os) specs :=
  Walk.chainS 1 hd hi (fun w hw vs hvs hF N hN => by
    obtain ⟨v, rfl⟩ := List.length_eq_one_iff.1 hvs
    obtain ⟨b, rfl, hb⟩ := hG v w hF
    exact h w hw b hb N hN) hrest
end
end Ch
end Go.Proofs.YtmaomebnigcgeaaGreatDoor

/-
  A segment is opened. (Of the segments' seat.)
-/
set_option linter.unusedSimpArgs false
set_option linter.unusedVariables false
namespace Go.Proofs.YtmaomebnigcgeaaGreatDoor
open Go.RowKit Go.Maps

theorem DecIs.zr {n m : Nat} {l : List UInt8} {v : Value} {w w' : World} (h : DecIs n l v w) (hz : ZR m batch0 w w') : DecIs n l v w' := by
  obtain ⟨u, rfl, ho, hn⟩ := h
  exact ⟨u, rfl, hz.ownsRow ho batch0_rec, hn⟩
theorem DecIs.less {n n' : Nat} {l : List UInt8} {v : Value} {w : World} (h : DecIs n l v w) (hn : n' ≤ n) : DecIs n' l v w := by
  obtain ⟨u, rfl, ho, h2⟩ := h
  exact ⟨u, rfl, ho, fun k hk => Nat.le_trans hn (h2 k hk)⟩
theorem OwnR.form {e : TypeId} {w : World} {v : Value} {l : List Rec} (h : OwnR e w v l) : v = .slice (vA v) l.length (vC v) := by
  obtain ⟨a, c, rfl, _⟩ := h.recs
  rfl
/-- The batch out of Decode's value. -/
def DecBt (n : Nat) (l : List UInt8) (v : Value) (w : World) : Prop :=
  ∃ u, v = .agg #[.int .i64 (decOut l).base, .int .i64 (decOut l).en, u] ∧ OwnR 55 w u (decOut l).rs ∧ ∀ k, u.ownBlock = some k → n ≤ k
theorem DecBt.zr {n m : Nat} {l : List UInt8} {v : Value} {w w' : World} (h : DecBt n l v w) (hz : ZR m batch0 w w') : DecBt n l v w' := by
  obtain ⟨u, rfl, ho, hn⟩ := h
  exact ⟨u, rfl, hz.ownsRow ho batch0_rec, hn⟩
/-- What is known of a batch's block: that it is made; what it holds. -/
def BatF (n : Nat) (l : List UInt8) : List Value → World → Prop
  | [], _ => True
  | [v], w => ∃ b, v = .pointer (some ⟨b, 0, none⟩) ∧ n ≤ b ∧ Box w b [.int .i64 0, .int .i64 0, .slice none 0 0] 41
  | v :: _ :: _, w => ∃ b u, v = .pointer (some ⟨b, 0, none⟩) ∧ n ≤ b ∧ Box w b [.int .i64 (decOut l).base, .int .i64 (decOut l).en, u] 41 ∧ OwnR 55 w u (decOut l).rs ∧ ∀ k, u.ownBlock = some k → n ≤ k
theorem BatF.nil {n : Nat} {l : List UInt8} {w w' : World} (hc : Chg Nil w w') : ∀ vs, BatF n l vs w → BatF n l vs w'
  | [], _ => trivial
  | [v], ⟨b, h1, h2, h3⟩ => ⟨b, h1, h2, h3.chg hc (fun h => h)⟩
  | v :: _ :: _, ⟨b, u, h1, h2, h3, h4, h5⟩ => ⟨b, u, h1, h2, h3.chg hc (fun h => h), ownsRow_chg h4 hc (fun _ _ h => h), h5⟩

/-- The size that stands in a segment's block. -/
def sizeAt (w : World) (s : Nat) : Nat := match w.cell? ⟨s, 4, none⟩ with | some (.int _ n) => n.toNat | _ => 0
theorem Sm.sizeAt {w : World} {s p : Nat} {v : Value} {g : Sg} (h : Sm w s p v g) : sizeAt w s = g.size := by
  have h4 := h.c.cell (j := 4) rfl
  unfold Go.Proofs.YtmaomebnigcgeaaGreatDoor.sizeAt
  rw [h4]
  rfl
theorem batBs_len {l : List Bt} (h : ∀ b ∈ l, b.Ok) : 11 * l.length ≤ (batBs l).length := by
  induction l with
  | nil => simp
  | cons b l ih =>
    rw [batBs_cons, List.length_append, List.length_cons]
    have h1 := ih (fun c hc => h c (List.mem_cons_of_mem _ hc))
    have h2 := (h b (List.mem_cons_self ..)).nums.some
    omega
theorem used_le {d : Dk} {x : Nm} {f : Fl} (h : d.find x = some f) : f.bytes.length ≤ d.used := by
  unfold Dk.find at h
  unfold Dk.used
  have : ∀ (l : List (Nm × Fl)), l.lookup x = some f → f.bytes.length ≤ (l.map fun p => p.2.bytes.length).sum := by
    intro l
    induction l with
    | nil => intro h; cases h
    | cons a l ih =>
      intro h
      rw [List.lookup_cons] at h
      rw [List.map_cons, List.sum_cons]
      split at h
      · rw [Option.some.inj h]; omega
      · have := ih h; omega
  exact this _ h
theorem SgOf.take {g : Sg} {l : List Bt} {k : Nat} (h : SgOf g (l.take k)) : g.size = (batBs (l.take k)).length := h.size
theorem take_all {l : List Bt} (hok : ∀ b ∈ l, b.Ok) {k : Nat} (hk : k ≤ l.length) (h : (batBs l).length ≤ (batBs (l.take k)).length) : k = l.length := by
  rcases Nat.lt_or_eq_of_le hk with hlt | rfl
  · exfalso
    have h1 : batBs l = batBs (l.take k) ++ batBs (l.drop k) := by rw [← batBs_append, List.take_append_drop]
    have h2 := batBs_len (l := l.drop k) (fun b hb => hok b (List.mem_of_mem_drop hb))
    rw [h1, List.length_append] at h
    rw [List.length_drop] at h2
    omega
  · rfl

theorem piece_whole {l : List Bt} (junk : List UInt8) {k : Nat} (hk : k < l.length) (hok : ∀ b ∈ l, b.Ok) : ∃ more, ((batBs l ++ junk).drop (batBs (l.take k)).length).take 6000 = l[k].bytes ++ more := by
  have hn := (hok l[k] (List.getElem_mem hk)).nums.len
  rw [read_at l junk hk, List.take_append, List.take_of_length_le hn]
  exact ⟨_, rfl⟩
theorem piece_junk (l : List Bt) (junk : List UInt8) : ((batBs l ++ junk).drop (batBs (l.take l.length)).length).take 6000 = junk.take 6000 := by
  rw [List.take_length, List.drop_left' rfl]
theorem SgOf.snoc {g : Sg} {l : List Bt} {k : Nat} (hk : k < l.length) (h : SgOf g (l.take k)) (hok : l[k].Ok) (hn : g.next ≤ l[k].base) : SgOf (g.noted l[k].base l[k].en l[k].rs l[k].bytes.length) (l.take (k + 1)) := by
  rw [List.take_succ_eq_append_getElem hk]
  exact h.noted hok hn
/-- What Open leaves of the disk: what is behind the batches is cut off. -/
def openR (d : Dk) (nm : Nm) (l : List Bt) (junk : List UInt8) : Nat × Dk := if junk = [] then (0, d) else d.cut nm (batBs l).length
def OpenAt (B : Nat → Prop) (w w' : World) (p : Nat) (S : Nat → Prop) (nm : Nm) (base : Nat) (l : List Bt) (junk : List UInt8) (R : Nat × Dk) (e : Ending) : Prop :=
  Chg S w w' ∧ ∃ S', DsS B w' p S' R.2 ∧
  ((R.1 = 0 ∧ ∃ s v g, (∀ k, SHas s v k → w.heap.size ≤ k) ∧ e = .returned (.tuple #[.pointer (some ⟨s, 0, none⟩), .int .i64 (junk.length : Nat), .nilIface]) ∧ SgS B w' p s S' v R.2 g ∧ g.name = nm ∧ g.base = base ∧ SgOf g l) ∨
   (R.1 ≠ 0 ∧ e = .returned (.tuple #[.pointer none, .int .i64 0, errD R.1])))

set_option maxHeartbeats 1000000 in
set_option maxRecDepth 20000 in
theorem sopen_none {w : World} {p : Nat} {S : Nat → Prop} {d : Dk} (h : DiskAt w p S d) (hT : Tabs w) (dir : ByteArray) (hd : dir.size ≤ 100) (base : Nat) (hb : base ≤ 1099511627776) (hf : d.find (segName dir.data.toList base) = none) :
    Calls Tryz.prog 8 #[.pointer (some ⟨p, 0, none⟩), .string dir, .int .i64 (base : Nat)] w fun e w' => e = .returned (.tuple #[.pointer none, .int .i64 0, errD 7]) ∧ Chg Nil w w' := by
  have HNM := Lib.hid (name_any hT dir base (by omega) hb)
  obtain ⟨nm, hnm⟩ : ∃ nm, segName dir.data.toList base = nm := ⟨_, rfl⟩
  have hln : nm.length ≤ 1000 := by rw [← hnm]; exact segName_len dir base hd hb
  rw [hnm] at HNM hf
  have HSZ := Lib.hid (fun (w' : World) (hc : Chg Nil w w') => size_any (h.chg hc (fun _ _ h => h)) ⟨nm.toArray⟩ (by show nm.toArray.size ≤ 4611686018427387904; simp; omega))
  have HD : Hid (d.size (ByteArray.mk nm.toArray).data.toList = -1) := by show d.size nm = -1; unfold Dk.size; rw [hf]
  clear h hT hd hb hnm hln hf
  go_enter Tryz.func8, Tryz.ntmps8
  go_wp2_with fail
  refine HNM.out.mono ?_
  rintro e w1 ⟨rfl, hc1⟩
  have hal := (Chg.refl Nil w1).alloc (.cells #[.pointer (some ⟨p, 0, none⟩), .string ⟨nm.toArray⟩, .int .i64 (base : Nat), .slice none 0 0, .int .i64 0] 80)
  have HC2 := Lib.hid (hc1.trans hal (fun _ h => h.elim))
  have hbx : Box (w1.alloc (.cells #[.pointer (some ⟨p, 0, none⟩), .string ⟨nm.toArray⟩, .int .i64 (base : Nat), .slice none 0 0, .int .i64 0] 80)) w1.heap.size [.pointer (some ⟨p, 0, none⟩), .string ⟨nm.toArray⟩, .int .i64 (base : Nat), .slice none 0 0, .int .i64 0] 80 := Box.new _ _ _
  clear hal hc1
  go_upto_region 2 with fail
  generalize w1.alloc (.cells #[.pointer (some ⟨p, 0, none⟩), .string ⟨nm.toArray⟩, .int .i64 (base : Nat), .slice none 0 0, .int .i64 0] 80) = w2 at *
  generalize w1.heap.size = s at *
  have c1 := hbx.cell (j := 1) rfl
  clear hbx
  go_wp2_with fail
  refine (HSZ.out w2 HC2.out).mono ?_
  rintro e w3 ⟨rfl, h3⟩
  obtain rfl := h3.symm
  rw [HD.out]
  go_wp2_with fail
  go_ret3
  exact ⟨rfl, HC2.out⟩

set_option maxHeartbeats 0 in
set_option maxRecDepth 20000 in
theorem sopen_any {B : Nat → Prop} {w : World} {p : Nat} {S : Nat → Prop} {d : Dk} (h : DsS B w p S d) (hT : Tabs w) (dir : ByteArray) (hd : dir.size ≤ 100) (base : Nat) (hb : base ≤ 1099511627776)
    (l : List Bt) (junk : List UInt8) (sf : Nat) (hf : d.find (segName dir.data.toList base) = some ⟨batBs l ++ junk, sf⟩) (hok : ∀ b ∈ l, b.Ok) (hup : rising base l) (hj : junk ≠ [] → decErr (junk.take 6000) ≠ 0) :
    Calls Tryz.prog 8 #[.pointer (some ⟨p, 0, none⟩), .string dir, .int .i64 (base : Nat)] w fun e w' => OpenAt B w w' p S (segName dir.data.toList base) base l junk (openR d (segName dir.data.toList base) l junk) e := by
  have HNM := Lib.hid (name_any hT dir base (by omega) hb)
  obtain ⟨nm, hnm⟩ : ∃ nm, segName dir.data.toList base = nm := ⟨_, rfl⟩
  have hln : nm.length ≤ 1000 := by rw [← hnm]; exact segName_len dir base hd hb
  rw [hnm] at HNM hf
  rw [hnm]
  have HLN : Hid ((ByteArray.mk nm.toArray).size ≤ 4611686018427387904) := by show nm.toArray.size ≤ 4611686018427387904; simp; omega
  have hF : (batBs l ++ junk).length ≤ 1048576 := by
    have h1 := used_le hf
    have h2 := h.a.ok.fits
    have h3 := h.a.ok.room
    have h1 : (batBs l ++ junk).length ≤ d.used := h1
    omega
  have HFL := Lib.hid hF
  have HSZ : Hid (d.size (ByteArray.mk nm.toArray).data.toList = ((batBs l ++ junk).length : Nat)) := by show d.size nm = _; unfold Dk.size; rw [hf]
  have HRD : Hid (∀ n : Nat, d.read (ByteArray.mk nm.toArray).data.toList (n : Nat) 6000 = ((batBs l ++ junk).drop n).take 6000) := by
    intro n
    show d.read nm _ _ = _
    unfold Dk.read readOf
    rw [hf]
    show (if ((n : Nat) : Int) < 0 ∨ (6000 : Int) ≤ 0 then [] else _) = _
    rw [if_neg (by omega)]
    rfl
  have HOKL := Lib.hid hok
  have HUP := Lib.hid hup
  have HJ := Lib.hid hj
  have HS := Lib.hid h
  have HLL : Hid (l.length ≤ 99999) := by
    have h1 := batBs_len hok
    rw [List.length_append] at hF
    unfold Hid
    omega
  clear h hT hd hb hnm hln hf hF hok hup hj
  obtain ⟨n0, hn0⟩ : ∃ n0, n0 = w.heap.size := ⟨_, rfl⟩
  have HN0 := Lib.hid hn0
  clear hn0
  go_enter Tryz.func8, Tryz.ntmps8
  go_wp2_with fail
  refine HNM.out.mono ?_
  rintro e w1 ⟨rfl, hc1⟩
  have hal := (Chg.refl Nil w1).alloc (.cells #[.pointer (some ⟨p, 0, none⟩), .string ⟨nm.toArray⟩, .int .i64 (base : Nat), .slice none 0 0, .int .i64 0] 80)
  have HC2 := Lib.hid (hc1.trans hal (fun _ h => h.elim))
  have hbx : Box (w1.alloc (.cells #[.pointer (some ⟨p, 0, none⟩), .string ⟨nm.toArray⟩, .int .i64 (base : Nat), .slice none 0 0, .int .i64 0] 80)) w1.heap.size [.pointer (some ⟨p, 0, none⟩), .string ⟨nm.toArray⟩, .int .i64 (base : Nat), .slice none 0 0, .int .i64 0] 80 := Box.new _ _ _
  have HSG : Hid (SgS B (w1.alloc (.cells #[.pointer (some ⟨p, 0, none⟩), .string ⟨nm.toArray⟩, .int .i64 (base : Nat), .slice none 0 0, .int .i64 0] 80)) p w1.heap.size S (.slice none 0 0) d ⟨nm, base, [], 0⟩) := by
    refine (HS.out.nil hc1).seg hal ⟨hbx, OwnP.nil _⟩ ?_
    rintro k (rfl | hk)
    · exact Nat.le_refl _
    · simp [Value.ownBlock] at hk
  have HS0 : Hid (n0 ≤ w1.heap.size) := by rw [HN0.out]; exact hc1.size
  clear hal hc1 hbx
  go_upto_region 2 with fail
  generalize w1.alloc (.cells #[.pointer (some ⟨p, 0, none⟩), .string ⟨nm.toArray⟩, .int .i64 (base : Nat), .slice none 0 0, .int .i64 0] 80) = w2 at *
  generalize w1.heap.size = s at *
  have c1 := HSG.out.m.c.cell (j := 1) rfl
  go_wp2_with fail
  refine (size_any HSG.out.a ⟨nm.toArray⟩ HLN.out).mono ?_
  rintro e w3 ⟨rfl, h3⟩
  obtain rfl := h3.symm
  rw [HSZ.out]
  obtain ⟨al, hal⟩ : ∃ al, (batBs l ++ junk).length = al := ⟨_, rfl⟩
  rw [hal]
  have HAL := Lib.hid hal
  have h0 : ¬ ((al : Nat) : Int) < 0 := by omega
  clear c1 hal
  go_upto_block 0 with fail
  clear h0
  go_cut [12] (fun nv wy => ∃ (v : Value) (g : Sg), SgS B wy p s S v d g ∧ g.name = nm ∧ g.base = base ∧ SgOf g l ∧ (∀ k, SHas s v k → n0 ≤ k) ∧ Chg Nil w wy)
  case first =>
    go_wp2_with fail
    go_loopw [12] (fun nv wr => ∃ (wq : World) (k : Nat) (v : Value) (g : Sg), wq = wr ∧ k ≤ l.length ∧ SgS B wr p s S v d g ∧ g.name = nm ∧ g.base = base ∧ SgOf g (l.take k) ∧ (∀ k, SHas s v k → n0 ≤ k) ∧ Chg Nil w wr) (fun _ wr => al - sizeAt wr s)
    case atStart =>
      refine ⟨_, 0, _, _, rfl, by omega, HSG.out, rfl, rfl, ⟨rfl, rfl, fun b hb => (by simp at hb), trivial⟩, ?_, HC2.out⟩
      rintro k (rfl | hk)
      · exact HS0.out
      · simp [Value.ownBlock] at hk
    case round =>
      obtain ⟨wr, k, v, g, rfl, hk, hsg, hgn, hgb, hof, hhas, hc⟩ := hrel
      have HSR := Lib.hid hsg
      have HGN := Lib.hid hgn
      have HGB := Lib.hid hgb
      have HOF := Lib.hid hof
      have HHA := Lib.hid hhas
      have HC := Lib.hid hc
      have HK := Lib.hid hk
      have c1 := hsg.m.c.cell (j := 1) rfl
      have c4 := hsg.m.c.cell (j := 4) rfl
      rw [hgn] at c1
      have HGS : Hid (g.size = (batBs (l.take k)).length) := hof.size
      clear hsg hgn hgb hof hhas hc hk HSG HC2 HS0
      by_cases hlt : g.size < al
      · have hlt' : (g.size : Int) < (al : Int) := by omega
        obtain ⟨L, hL⟩ : ∃ L, ((batBs l ++ junk).drop g.size).take 6000 = L := ⟨_, rfl⟩
        have hLL : L.length ≤ 6000 := by rw [← hL, List.length_take]; omega
        have HRL := Lib.hid ((HRD.out g.size).trans hL)
        have HLI := Lib.hid hL
        have HLL2 := Lib.hid hLL
        clear hL hLL
        have HBAD : Hid (decErr L ≠ 0 → SgOf g l) := by
          intro hE
          have hkl : k = l.length := by
            rcases Nat.lt_or_eq_of_le HK.out with h1 | h1
            · exfalso
              have h2 := HLI.out
              obtain ⟨more, h3⟩ := piece_whole junk h1 HOKL.out
              rw [HGS.out, h3] at h2
              rw [← h2] at hE
              exact hE (decOut_whole (HOKL.out _ (List.getElem_mem h1)) more).1
            · exact h1
          have h1 := HOF.out
          rw [hkl, List.take_length] at h1
          exact h1
        have HGOOD : Hid (decErr L = 0 → k < l.length ∧ (Bt.mk (decOut L).base (decOut L).en (decOut L).rs).Nums ∧ ¬ (decOut L).base < g.next ∧ (Bt.mk (decOut L).base (decOut L).en (decOut L).rs).bytes.length = (decOut L).n ∧ SgOf (g.noted (decOut L).base (decOut L).en (decOut L).rs (decOut L).n) (l.take (k + 1))) := by
          intro hE
          have hkl : k < l.length := by
            rcases Nat.lt_or_eq_of_le HK.out with h1 | h1
            · exact h1
            · exfalso
              have h2 := HLI.out
              rw [HGS.out, h1, piece_junk] at h2
              have h3 : junk ≠ [] := by
                intro h4
                have h5 := HAL.out
                rw [h4, List.append_nil] at h5
                have h6 := HGS.out
                rw [h1, List.take_length] at h6
                omega
              exact HJ.out h3 (by rw [h2]; exact hE)
          have hbok := HOKL.out l[k] (List.getElem_mem hkl)
          have hnx : g.next ≤ l[k].base := by
            have h1 := HOF.out.next
            have h2 := rising_next hkl HUP.out
            rw [HGB.out] at h1
            omega
          have hD : decOut L = ⟨l[k].base, l[k].en, l[k].bytes.length, l[k].rs⟩ := by
            have h1 := HLI.out
            rw [HGS.out] at h1
            obtain ⟨more, h2⟩ := piece_whole junk hkl HOKL.out
            rw [h2] at h1
            rw [← h1]
            exact (decOut_whole hbok more).2
          rw [hD]
          exact ⟨hkl, hbok.nums, by show ¬ l[k].base < g.next; omega, rfl, HOF.out.snoc hkl hbok hnx⟩
        go_upto_region 6 with fail
        clear hlt'
        refine Ch.wp_region_last _ _ rfl (ZR wr.heap.size batch0) [15, 16] (BatF wr.heap.size L) (by kernel_rfl) (fun _ => ZR.refl _) (fun _ _ _ h k => h.trans k) [[], [], [1], [2], [3], [], [5], [6], [7], [0, 4, 8], [9], [10], [11], [11], [11], [], [12, 15], [13]] rfl (by kernel_rfl) (by kernel_rfl) (by kernel_rfl) (ZR.of (Chg.refl Nil _).drew) ?_ ?_
        · trivial
        simp only [List.dropLast_cons_cons, List.dropLast_singleton]
        iterate 4 ((with_reducible apply Ch.Walk.eq); (case hd => rfl); (case hi => rfl); case h => (intro w2 hw2 N hN; simp only [Ch.depsOf, List.filterMap_nil, List.filterMap_cons, List.getElem?_toArray, List.getElem?_cons_zero, List.getElem?_cons_succ, Option.bind_some, List.nil_append, List.cons_append, Ch.Ob]; go_simp; (try go_bits); with_reducible exact hN _ (ZR.refl _) (fun _ h => h)))
        ((with_reducible apply Ch.Walk.eq); (case hd => rfl); (case hi => rfl); case h => (intro w2 hw2 N hN; (have hq := (hw2.nil (Nat.le_refl _)).cell c1 (fun h => h)); simp only [Ch.depsOf, List.filterMap_nil, List.filterMap_cons, List.getElem?_toArray, List.getElem?_cons_zero, List.getElem?_cons_succ, Option.bind_some, List.nil_append, List.cons_append, Ch.Ob]; go_simp; (try go_bits); with_reducible exact hN _ (ZR.refl _) (fun _ h => h)))
        iterate 3 ((with_reducible apply Ch.Walk.eq); (case hd => rfl); (case hi => rfl); case h => (intro w2 hw2 N hN; simp only [Ch.depsOf, List.filterMap_nil, List.filterMap_cons, List.getElem?_toArray, List.getElem?_cons_zero, List.getElem?_cons_succ, Option.bind_some, List.nil_append, List.cons_append, Ch.Ob]; go_simp; (try go_bits); with_reducible exact hN _ (ZR.refl _) (fun _ h => h)))
        ((with_reducible apply Ch.Walk.eq); (case hd => rfl); (case hi => rfl); case h => (intro w2 hw2 N hN; (have hq := (hw2.nil (Nat.le_refl _)).cell c4 (fun h => h)); simp only [Ch.depsOf, List.filterMap_nil, List.filterMap_cons, List.getElem?_toArray, List.getElem?_cons_zero, List.getElem?_cons_succ, Option.bind_some, List.nil_append, List.cons_append, Ch.Ob]; go_simp; (try go_bits); with_reducible exact hN _ (ZR.refl _) (fun _ h => h)))
        refine Ch.Walk.sat (fun v w => ∃ a c, v = .slice a L.length c ∧ BytesAt w a L ∧ L.length ≤ c ∧ c ≤ maxLen) ?_ rfl rfl ?_ ?_
        · rintro v w6 w7 ⟨a, c, rfl, hb, hl⟩ hz
          exact ⟨a, c, rfl, hz.bytes hb batch0_byte, hl⟩
        · intro w6 hw6 N hN
          have HRE := Lib.hid (read_any (HSR.out.nil (hw6.nil (Nat.le_refl _))).a ⟨nm.toArray⟩ HLN.out (g.size : Nat) 6000)
          simp only [Ch.depsOf, List.filterMap_nil, List.filterMap_cons, List.getElem?_toArray, List.getElem?_cons_zero, List.getElem?_cons_succ, Option.bind_some, List.nil_append, List.cons_append, Ch.Ob, Ch.chained_get, Option.map_some, List.idxOf?, List.findIdx?, List.findIdx?.go, Nat.reduceBEq, List.getD_cons_zero, List.getD_cons_succ, Nat.reduceAdd, if_true, if_false, Bool.false_eq_true]
          go_simp
          refine HRE.out.mono ?_
          rintro e w7 ⟨v, rfl, hfr, hc7⟩
          rw [HRL.out] at hfr
          obtain ⟨a, c, rfl, hb, hl, _, hm⟩ := hfr
          exact ⟨_, rfl, hN _ _ ⟨a, c, rfl, hb, hl, hm⟩ (ZR.of hc7) (fun vs hF => BatF.nil hc7 vs hF)⟩
        refine Ch.Walk.sat (DecIs wr.heap.size L) ?_ rfl rfl ?_ ?_
        · exact fun v w6 w7 h hz => h.zr hz
        · intro w6 hw6 N hN
          simp only [Ch.depsOf, List.filterMap_nil, List.filterMap_cons, List.getElem?_toArray, List.getElem?_cons_zero, List.getElem?_cons_succ, Option.bind_some, List.nil_append, List.cons_append, Ch.Ob, Ch.chained_get, Option.map_some, List.idxOf?, List.findIdx?, List.findIdx?.go, Nat.reduceBEq, List.getD_cons_zero, List.getD_cons_succ, Nat.reduceAdd, if_true, if_false, Bool.false_eq_true]
          rintro v ⟨a, c, rfl, hb, hl, hm⟩
          have HDC := Lib.hid (decode_out a L c w6 hl hm hb)
          clear hb hl hm
          go_simp
          refine HDC.out.mono ?_
          rintro e w7 ⟨v, rfl, hv, hc7⟩
          exact ⟨_, rfl, hN _ _ (hv.less hw6.size) (ZR.of hc7) (fun vs hF => BatF.nil hc7 vs hF)⟩
        refine Ch.Walk.sat (DecIs wr.heap.size L) ?_ rfl rfl ?_ ?_
        · exact fun v w6 w7 h hz => h.zr hz
        · intro w6 hw6 N hN
          simp only [Ch.depsOf, List.filterMap_nil, List.filterMap_cons, List.getElem?_toArray, List.getElem?_cons_zero, List.getElem?_cons_succ, Option.bind_some, List.nil_append, List.cons_append, Ch.Ob, Ch.chained_get, Option.map_some, List.idxOf?, List.findIdx?, List.findIdx?.go, Nat.reduceBEq, List.getD_cons_zero, List.getD_cons_succ, Nat.reduceAdd, if_true, if_false, Bool.false_eq_true]
          intro v hv
          go_simp
          exact hN _ _ hv (ZR.refl _) (fun vs hF => hF)
        refine Ch.Walk.sat (DecBt wr.heap.size L) ?_ rfl rfl ?_ ?_
        · exact fun v w6 w7 h hz => h.zr hz
        · intro w6 hw6 N hN
          simp only [Ch.depsOf, List.filterMap_nil, List.filterMap_cons, List.getElem?_toArray, List.getElem?_cons_zero, List.getElem?_cons_succ, Option.bind_some, List.nil_append, List.cons_append, Ch.Ob, Ch.chained_get, Option.map_some, List.idxOf?, List.findIdx?, List.findIdx?.go, Nat.reduceBEq, List.getD_cons_zero, List.getD_cons_succ, Nat.reduceAdd, if_true, if_false, Bool.false_eq_true]
          rintro v ⟨u, rfl, ho, hn⟩
          go_simp
          exact hN _ _ ⟨u, rfl, ho, hn⟩ (ZR.refl _) (fun vs hF => hF)
        (with_reducible apply Ch.Walk.eq); (case hd => rfl); (case hi => rfl); case h =>
          intro w6 hw6 N hN
          simp only [Ch.depsOf, List.filterMap_nil, List.filterMap_cons, List.getElem?_toArray, List.getElem?_cons_zero, List.getElem?_cons_succ, Option.bind_some, List.nil_append, List.cons_append, Ch.Ob, Ch.chained_get, Option.map_some, List.idxOf?, List.findIdx?, List.findIdx?.go, Nat.reduceBEq, List.getD_cons_zero, List.getD_cons_succ, Nat.reduceAdd, if_true, if_false, Bool.false_eq_true]
          rintro v ⟨u, rfl, ho, hn⟩
          clear ho hn
          go_simp
          with_reducible exact hN _ (ZR.refl _) (fun _ h => h)
        (with_reducible apply Ch.Walk.eq); (case hd => rfl); (case hi => rfl); case h =>
          intro w6 hw6 N hN
          simp only [Ch.depsOf, List.filterMap_nil, List.filterMap_cons, List.getElem?_toArray, List.getElem?_cons_zero, List.getElem?_cons_succ, Option.bind_some, List.nil_append, List.cons_append, Ch.Ob, Ch.chained_get, Option.map_some, List.idxOf?, List.findIdx?, List.findIdx?.go, Nat.reduceBEq, List.getD_cons_zero, List.getD_cons_succ, Nat.reduceAdd, if_true, if_false, Bool.false_eq_true]
          rintro v ⟨u, rfl, ho, hn⟩
          clear ho hn
          go_simp
          with_reducible exact hN _ (ZR.refl _) (fun _ h => h)
        simp only [List.nil_append, List.cons_append]
        refine Ch.Walk.chain 0 rfl rfl ?_ ?_
        · intro w8 hw8 vs hvs hF N hN
          obtain rfl := List.eq_nil_of_length_eq_zero hvs
          simp only [Ch.depsOf, List.filterMap_nil, List.filterMap_cons, List.getElem?_toArray, List.getElem?_cons_zero, List.getElem?_cons_succ, Option.bind_some, List.nil_append, List.cons_append, Ch.Ob, Ch.chained_get, Option.map_some, List.idxOf?, List.findIdx?, List.findIdx?.go, Nat.reduceBEq, List.getD_cons_zero, List.getD_cons_succ, Nat.reduceAdd, if_true, if_false, Bool.false_eq_true]
          go_simp
          have hal := (Chg.refl Nil w8).alloc (.cells #[.int .i64 0, .int .i64 0, .slice none 0 0] 41)
          exact hN _ _ (ZR.of hal) ⟨w8.heap.size, rfl, hw8.size, Box.new w8 [.int .i64 0, .int .i64 0, .slice none 0 0] _⟩
        simp only [List.nil_append, List.cons_append]
        refine Ch.Walk.chainSx (fun b : Nat => Value.pointer (some ⟨b, 0, none⟩)) (fun b w => wr.heap.size ≤ b ∧ Box w b [.int .i64 0, .int .i64 0, .slice none 0 0] 41) (fun _ _ h => h) rfl rfl ?_ ?_
        · intro w8 hw8 b hb N hN
          have hnb := hb.1
          have hbx := hb.2
          clear hb
          simp only [Ch.depsOf, List.filterMap_nil, List.filterMap_cons, List.getElem?_toArray, List.getElem?_cons_zero, List.getElem?_cons_succ, Option.bind_some, List.nil_append, List.cons_append, Ch.Ob, Ch.chained_get, Option.map_some, List.idxOf?, List.findIdx?, List.findIdx?.go, Nat.reduceBEq, List.getD_cons_zero, List.getD_cons_succ, Nat.reduceAdd, if_true, if_false, Bool.false_eq_true]
          intro v hv
          refine Exists.elim hv fun u hu2 => ?_
          have e3 := hu2.1
          have ho := hu2.2.1
          have hn := hu2.2.2
          clear hv hu2
          subst e3
          have hu := ho.form
          generalize vA u = ua at hu
          generalize vC u = uc at hu
          subst hu
          have hcs : Chg (fun k => k = b) w8 (((w8.setCell ⟨b, 0, none⟩ (.int .i64 (decOut L).base)).setCell ⟨b, 1, none⟩ (.int .i64 (decOut L).en)).setCell ⟨b, 2, none⟩ (.slice ua (decOut L).rs.length uc)) := (((Chg.refl (fun k => k = b) w8).setCell (p := ⟨b, 0, none⟩) (.inl rfl) _).setCell (p := ⟨b, 1, none⟩) (.inl rfl) _).setCell (p := ⟨b, 2, none⟩) (.inl rfl) _
          have HZ := Lib.hid (ZR.store hcs hnb hbx)
          have HB9 : Hid (Box (((w8.setCell ⟨b, 0, none⟩ (.int .i64 (decOut L).base)).setCell ⟨b, 1, none⟩ (.int .i64 (decOut L).en)).setCell ⟨b, 2, none⟩ (.slice ua (decOut L).rs.length uc)) b [.int .i64 (decOut L).base, .int .i64 (decOut L).en, .slice ua (decOut L).rs.length uc] 41) := ((hbx.set 0 _).set 1 _).set 2 _
          have HO := Lib.hid (ZR.ownsRow HZ.out ho batch0_rec)
          have HNN := Lib.hid hn
          have HNB := Lib.hid hnb
          have b0 := hbx.cell (j := 0) rfl
          have f0 := hbx.free 0
          have b1 := hbx.cell (j := 1) rfl
          have f1 := hbx.free 1
          have b2 := hbx.cell (j := 2) rfl
          have f2 := hbx.free 2
          clear hbx ho hn hcs hnb
          go_simp
          exact hN _ HZ.out ⟨b, _, rfl, HNB.out, HB9.out, HO.out, HNN.out⟩
        simp only [List.nil_append, List.cons_append]
        ((with_reducible apply Ch.Walk.eq); (case hd => rfl); (case hi => rfl); case h => (intro w2 hw2 N hN; simp only [Ch.depsOf, List.filterMap_nil, List.filterMap_cons, List.getElem?_toArray, List.getElem?_cons_zero, List.getElem?_cons_succ, Option.bind_some, List.nil_append, List.cons_append, Ch.Ob]; go_simp; (try go_bits); with_reducible exact hN _ (ZR.refl _) (fun _ h => h)))
        intro w6 hw6
        simp only [List.nil_append, List.cons_append, Ch.Fin, List.map_cons, List.map_nil, List.getD_cons_zero, List.getD_cons_succ]
        intro v1 _ v2 _ v3 _ v4 _ v5 _ hF
        have hF : ∃ b u, v5 = .pointer (some ⟨b, 0, none⟩) ∧ wr.heap.size ≤ b ∧ Box w6 b [.int .i64 (decOut L).base, .int .i64 (decOut L).en, u] 41 ∧ OwnR 55 w6 u (decOut L).rs ∧ ∀ k, u.ownBlock = some k → wr.heap.size ≤ k := hF
        refine Exists.elim hF fun b hF => ?_
        refine Exists.elim hF fun u hF => ?_
        have hv5 := hF.1
        have HNB := Lib.hid hF.2.1
        have hou := hF.2.2.2.1
        have hu := hou.form
        have HNU := Lib.hid hF.2.2.2.2
        have HW6 : Hid (Chg Nil wr w6) := hw6.nil (Nat.le_refl _)
        have hbx := hF.2.2.1
        clear hF hw6
        subst hv5
        generalize vA u = ua at hu
        generalize vC u = uc at hu
        subst hu
        have HOU := Lib.hid hou
        have HBX := Lib.hid hbx
        clear hbx hou c1 c4
        simp only [Ch.Then, Oper.wp]
        by_cases hE : decErr L = 0
        · have hev : errV 32 (decErr L) = .nilIface := by rw [hE]; rfl
          rw [hev]
          have HGD := Lib.hid (HGOOD.out hE)
          have hlt3 := HGD.out.2.2.1
          clear hev hE HGOOD HBAD HLI HRL HLL2
          have x0 := HBX.out.cell (j := 0) rfl
          have HNXC := Lib.hid (fun (w' : World) (hw : Chg Nil w6 w') => snext_any ((HSR.out.nil HW6.out).nil hw).m (by rw [HOF.out.pls, plsOf_length, List.length_take]; have := HLL.out; omega))
          go_simp
          go_upto_region 7 with fail
          refine wp_region_mono _ (Chg Nil) (by kernel_rfl) (fun _ _ _ h k => h.trans k (fun _ h => h.elim)) [[], [0], [1], [2], [3, 2], [2], [5, 2], [4, 6, 2], [2, 7]] rfl (by kernel_rfl) (Chg.refl _ _).drew ?_
          iterate 4 ((with_reducible apply Walk.eq); case h => (intro w2 hw2 N hN; simp only [depsOf, List.filterMap_nil, List.filterMap_cons, List.getElem?_toArray, List.getElem?_cons_zero, List.getElem?_cons_succ, Option.bind_some, List.nil_append, List.cons_append, Ob]; go_simp; (try go_bits); with_reducible exact hN _ (Chg.refl _ _)))
          ((with_reducible apply Walk.eq); case h => (intro w2 hw2 N hN; have hq := hw2.cell x0 (fun h => h); simp only [depsOf, List.filterMap_nil, List.filterMap_cons, List.getElem?_toArray, List.getElem?_cons_zero, List.getElem?_cons_succ, Option.bind_some, List.nil_append, List.cons_append, Ob]; go_simp; with_reducible exact hN _ (Chg.refl _ _)))
          ((with_reducible apply Walk.eq); case h => (intro w2 hw2 N hN; simp only [depsOf, List.filterMap_nil, List.filterMap_cons, List.getElem?_toArray, List.getElem?_cons_zero, List.getElem?_cons_succ, Option.bind_some, List.nil_append, List.cons_append, Ob]; go_simp; (try go_bits); with_reducible exact hN _ (Chg.refl _ _)))
          (with_reducible apply Walk.eq); case h =>
            intro w2 hw2 N hN
            simp only [depsOf, List.filterMap_nil, List.filterMap_cons, List.getElem?_toArray, List.getElem?_cons_zero, List.getElem?_cons_succ, Option.bind_some, List.nil_append, List.cons_append, Ob]
            go_simp
            refine (HNXC.out w2 hw2).mono ?_
            rintro e w4 ⟨rfl, hc4⟩
            exact ⟨_, rfl, hN _ hc4⟩
          iterate 2 ((with_reducible apply Walk.eq); case h => (intro w2 hw2 N hN; simp only [depsOf, List.filterMap_nil, List.filterMap_cons, List.getElem?_toArray, List.getElem?_cons_zero, List.getElem?_cons_succ, Option.bind_some, List.nil_append, List.cons_append, Ob]; go_simp; (try go_bits); with_reducible exact hN _ (Chg.refl _ _)))
          intro w8 hw8
          simp only [List.nil_append, List.cons_append, Fin]
          have hbx8 := HBX.out.chg hw8 (fun h => h)
          have x0 := hbx8.cell (j := 0) rfl
          have x1 := hbx8.cell (j := 1) rfl
          have x2 := hbx8.cell (j := 2) rfl
          have HOU8 : Hid (OwnR 55 w8 (.slice ua (decOut L).rs.length uc) (decOut L).rs) := ownsRow_chg HOU.out hw8 (fun _ _ h => h)
          have HS8 := Lib.hid ((HSR.out.nil HW6.out).nil hw8)
          have HNT : Hid (∀ size : Nat, size = (decOut L).n → Calls Tryz.prog 39 #[.pointer (some ⟨s, 0, none⟩), .agg #[.int .i64 (decOut L).base, .int .i64 (decOut L).en, .slice ua (decOut L).rs.length uc], .int .i64 (size : Nat)] w8 fun e w' =>
              e = .returned (.tuple #[]) ∧ ∃ v', Sm w' s p v' (g.noted (decOut L).base (decOut L).en (decOut L).rs size) ∧ Chg (SHas s v) w8 w' ∧ ∀ k, SHas s v' k → SHas s v k ∨ w8.heap.size ≤ k) := by
            intro size hsz
            obtain ⟨ra, rc, hv, hrs, _⟩ := HOU8.out.recs
            simp only [Value.slice.injEq] at hv
            obtain ⟨rfl, _, rfl⟩ := hv
            refine snote_any HS8.out.m (by rw [HOF.out.pls, plsOf_length, List.length_take]; have := HLL.out; omega) (decOut L).base (decOut L).en ua (decOut L).rs uc hrs (by have h1 : (decOut L).rs.length ≤ 50 := HGD.out.2.1.few; omega) size ?_
            have h1 := HGD.out.2.1.len
            have h2 := HGD.out.2.2.2.1
            have h3 := HAL.out
            have h4 := HFL.out
            omega
          have HC8 := Lib.hid ((HC.out.trans HW6.out (fun _ h => h.elim)).trans hw8 (fun _ h => h.elim))
          clear hbx8 hw8
          go_simp
          go_wp2_with fail
          refine (HNT.out (decOut L).n rfl).mono ?_
          rintro e w9 ⟨rfl, v', hm9, hc9, hn9⟩
          have HS9 := Lib.hid (HS8.out.seg hm9 hc9 hn9)
          have HH9 : Hid (∀ k, SHas s v' k → n0 ≤ k) := by
            intro k hk
            rcases hn9 k hk with h9 | h9
            · exact HHA.out k h9
            · have h1 := HC8.out.size
              have h2 := HN0.out
              omega
          have HC9 := Lib.hid (HC8.out.trans hc9 (fun i hi => .inr (by have := HHA.out i hi; have := HN0.out; omega)))
          have hz1 := HSR.out.m.sizeAt
          have hz2 := hm9.sizeAt
          have hz3 : (g.noted (decOut L).base (decOut L).en (decOut L).rs (decOut L).n).size = g.size + (decOut L).n := rfl
          have hz4 := HGD.out.2.1.some
          have hz5 := HGD.out.2.2.2.1
          have HZ : Hid (al - sizeAt w9 s < al - sizeAt wr s) := by unfold Hid; rw [hz1, hz2, hz3]; omega
          clear hz1 hz2 hz3 hz4 hz5 hm9 hc9 hn9 HNT x0 x1 x2
          go_wp2_with fail
          go_roundw
          case rel => exact ⟨_, k + 1, v', _, rfl, HGD.out.1, HS9.out, HGN.out, HGB.out, HGD.out.2.2.2.2, HH9.out, HC9.out⟩
          case measure => exact HZ.out
        · have hev : errV 32 (decErr L) = .iface 32 (.int .i64 (decErr L : Nat)) := if_neg hE
          rw [hev]
          have HOF2 := Lib.hid (HBAD.out hE)
          clear hev hE
          go_simp
          go_upto_region 7 with fail
          refine wp_region_mono _ (Chg Nil) (by kernel_rfl) (fun _ _ _ h k => h.trans k (fun _ h => h.elim)) [[], [0], [1], [2], [3, 2], [2], [5, 2], [4, 6, 2], [2, 7]] rfl (by kernel_rfl) (Chg.refl _ _).drew ?_
          iterate 9 ((with_reducible apply Walk.eq); case h => (intro w2 hw2 N hN; simp only [depsOf, List.filterMap_nil, List.filterMap_cons, List.getElem?_toArray, List.getElem?_cons_zero, List.getElem?_cons_succ, Option.bind_some, List.nil_append, List.cons_append, Ob]; go_simp; (try go_bits); with_reducible exact hN _ (Chg.refl _ _)))
          intro w8 hw8
          simp only [List.nil_append, List.cons_append, Fin]
          have HW8 := Lib.hid hw8
          clear hw8
          go_simp
          go_wp2_with fail
          go_meet
          case rel => exact ⟨v, g, (HSR.out.nil HW6.out).nil HW8.out, HGN.out, HGB.out, HOF2.out, HHA.out, (HC.out.trans HW6.out (fun _ h => h.elim)).trans HW8.out (fun _ h => h.elim)⟩
      · have hlt' : ¬ (g.size : Int) < (al : Int) := by omega
        have HOF2 : Hid (SgOf g l) := by
          have h1 := HOF.out
          have h2 : k = l.length := by
            refine take_all HOKL.out HK.out ?_
            have h3 := HAL.out
            have h4 := HGS.out
            rw [List.length_append] at h3
            omega
          rw [h2, List.take_length] at h1
          exact h1
        clear hlt
        go_wp2_with fail
        go_meet
        case rel => exact ⟨v, g, HSR.out, HGN.out, HGB.out, HOF2.out, HHA.out, HC.out⟩
  obtain ⟨v, g, hsg, hgn, hgb, hof, hhas, hc⟩ := hcut
  have HS1 := Lib.hid hsg
  have HGN := Lib.hid hgn
  have HGB := Lib.hid hgb
  have HOF := Lib.hid hof
  have HHA : Hid (∀ k, SHas s v k → w.heap.size ≤ k) := fun k hk => by have := hhas k hk; have := HN0.out; omega
  have HC1 := Lib.hid hc
  have c1 := hsg.m.c.cell (j := 1) rfl
  have c4 := hsg.m.c.cell (j := 4) rfl
  rw [hgn] at c1
  have HGS : Hid (g.size = (batBs l).length) := hof.size
  clear hsg hgn hgb hof hhas hc HSG HC2 HS0
  by_cases hju : junk = []
  · have HJU := Lib.hid hju
    have hga : (g.size : Int) = (al : Int) := by
      have h1 := HAL.out
      have h2 := HGS.out
      rw [hju, List.append_nil] at h1
      omega
    have HGA := Lib.hid hga
    have hlt : ¬ (g.size : Int) < (al : Int) := by omega
    have hsub : wrap64 ((al : Int) - (g.size : Int)) = 0 := by unfold wrap64; omega
    clear hga hju
    go_wp2_with fail
    go_upto_region 13 with fail
    refine Ch.wp_region_chain _ (Chg (Nil)) [] (fun _ _ => True) (by kernel_rfl) (fun _ => Chg.refl _ _) (fun _ _ _ h k => h.trans k (fun _ h => .inl h)) [[], [], [], [2], [3], [4], [1, 5], [0], [6], []] rfl (by kernel_rfl) (by kernel_rfl) (Chg.refl _ _).drew ?_ ?_
    · trivial
    iterate 5 ((with_reducible apply Ch.Walk.eq); (case hd => rfl); (case hi => rfl); case h => (intro w2 hw2 N hN; simp only [Ch.depsOf, List.filterMap_nil, List.filterMap_cons, List.getElem?_toArray, List.getElem?_cons_zero, List.getElem?_cons_succ, Option.bind_some, List.nil_append, List.cons_append, Ch.Ob]; go_simp; (try go_bits); with_reducible exact hN _ (Chg.refl _ _) (fun _ h => h)))
    ((with_reducible apply Ch.Walk.eq); (case hd => rfl); (case hi => rfl); case h => (intro w2 hw2 N hN; (have hq := hw2.cell c4 (fun h => h)); simp only [Ch.depsOf, List.filterMap_nil, List.filterMap_cons, List.getElem?_toArray, List.getElem?_cons_zero, List.getElem?_cons_succ, Option.bind_some, List.nil_append, List.cons_append, Ch.Ob]; go_simp; (try go_bits); with_reducible exact hN _ (Chg.refl _ _) (fun _ h => h)))
    iterate 4 ((with_reducible apply Ch.Walk.eq); (case hd => rfl); (case hi => rfl); case h => (intro w2 hw2 N hN; simp only [Ch.depsOf, List.filterMap_nil, List.filterMap_cons, List.getElem?_toArray, List.getElem?_cons_zero, List.getElem?_cons_succ, Option.bind_some, List.nil_append, List.cons_append, Ch.Ob]; go_simp; (try go_bits); with_reducible exact hN _ (Chg.refl _ _) (fun _ h => h)))
    intro w8 hw8
    simp only [List.nil_append, List.cons_append, Ch.Fin, List.map_cons, List.map_nil, List.getD_cons_zero, List.getD_cons_succ]
    intro _
    have HW8 := Lib.hid hw8
    clear hw8 hlt hsub c1 c4
    go_simp
    go_wp2_with fail
    go_ret3
    have hR : openR d nm l junk = (0, d) := if_pos HJU.out
    rw [hR]
    refine ⟨(HC1.out.trans HW8.out (fun _ h => h.elim)).weak (fun _ h => h.elim), S, (HS1.out.nil HW8.out).ds, .inl ⟨rfl, s, v, g, HHA.out, ?_, HS1.out.nil HW8.out, HGN.out, HGB.out, HOF.out⟩⟩
    rw [HJU.out]
    rfl
  · have hlt : (g.size : Int) < (al : Int) := by
      have h1 := HAL.out
      have h2 := HGS.out
      have h3 := List.length_pos_iff.2 hju
      rw [List.length_append] at h1
      omega
    have HLT := Lib.hid hlt
    obtain ⟨R, hR⟩ : ∃ R, d.cut nm (g.size : Nat) = R := ⟨_, rfl⟩
    have HR := Lib.hid hR
    have HRO : Hid (openR d nm l junk = R) := by
      unfold Hid openR
      rw [if_neg hju, ← hR, HGS.out]
    have HJU := Lib.hid hju
    have HOP := Lib.hid (fun (w' : World) (h : SgS B w' p s S v d g) => cut_any h.a ⟨nm.toArray⟩ HLN.out (g.size : Nat))
    clear hR hju
    go_upto_region 10 with fail
    clear hlt
    refine Ch.wp_region_chain _ (Chg (S)) [9] (SopF B p s S v d g R) (by kernel_rfl) (fun _ => Chg.refl _ _) (fun _ _ _ h k => h.trans k (fun _ h => .inl h)) [[], [], [1], [2], [3], [], [5], [6], [7], [0, 4, 8], [9]] rfl (by kernel_rfl) (by kernel_rfl) (Chg.refl _ _).drew ?_ ?_
    · exact HS1.out.nil (Chg.refl Nil _).drew
    iterate 4 ((with_reducible apply Ch.Walk.eq); (case hd => rfl); (case hi => rfl); case h => (intro w2 hw2 N hN; simp only [Ch.depsOf, List.filterMap_nil, List.filterMap_cons, List.getElem?_toArray, List.getElem?_cons_zero, List.getElem?_cons_succ, Option.bind_some, List.nil_append, List.cons_append, Ch.Ob]; go_simp; (try go_bits); with_reducible exact hN _ (Chg.refl _ _) (fun _ h => h)))
    ((with_reducible apply Ch.Walk.eq); (case hd => rfl); (case hi => rfl); case h => (intro w2 hw2 N hN; (have hq := hw2.cell c1 (HS1.out.ap s (.inl rfl))); simp only [Ch.depsOf, List.filterMap_nil, List.filterMap_cons, List.getElem?_toArray, List.getElem?_cons_zero, List.getElem?_cons_succ, Option.bind_some, List.nil_append, List.cons_append, Ch.Ob]; go_simp; (try go_bits); with_reducible exact hN _ (Chg.refl _ _) (fun _ h => h)))
    iterate 3 ((with_reducible apply Ch.Walk.eq); (case hd => rfl); (case hi => rfl); case h => (intro w2 hw2 N hN; simp only [Ch.depsOf, List.filterMap_nil, List.filterMap_cons, List.getElem?_toArray, List.getElem?_cons_zero, List.getElem?_cons_succ, Option.bind_some, List.nil_append, List.cons_append, Ch.Ob]; go_simp; (try go_bits); with_reducible exact hN _ (Chg.refl _ _) (fun _ h => h)))
    ((with_reducible apply Ch.Walk.eq); (case hd => rfl); (case hi => rfl); case h => (intro w2 hw2 N hN; (have hq := hw2.cell c4 (HS1.out.ap s (.inl rfl))); simp only [Ch.depsOf, List.filterMap_nil, List.filterMap_cons, List.getElem?_toArray, List.getElem?_cons_zero, List.getElem?_cons_succ, Option.bind_some, List.nil_append, List.cons_append, Ch.Ob]; go_simp; (try go_bits); with_reducible exact hN _ (Chg.refl _ _) (fun _ h => h)))
    refine Ch.Walk.chainE 0 (c := errD R.1) rfl rfl ?_ ?_
    · intro w6 hw6 vs hvs hF N hN
      obtain rfl := List.eq_nil_of_length_eq_zero hvs
      have F3 : SgS B w6 p s S v d g := hF
      have HO6 := Lib.hid (HOP.out w6 F3)
      have HF3 := Lib.hid F3
      clear F3 hF
      simp only [Ch.depsOf, List.filterMap_nil, List.filterMap_cons, List.getElem?_toArray, List.getElem?_cons_zero, List.getElem?_cons_succ, Option.bind_some, List.nil_append, List.cons_append, Ch.Ob, Ch.chained_get, Option.map_some, List.idxOf?, List.findIdx?, List.findIdx?.go, Nat.reduceBEq, List.getD_cons_zero, List.getD_cons_succ, Nat.reduceAdd, if_true, if_false, Bool.false_eq_true]
      go_simp
      refine HO6.out.mono ?_
      rintro e w7 ⟨rfl, h2, h3⟩
      have h2 : DiskAt w7 p (Gr S w6 w7) (d.cut nm (g.size : Nat)).2 := h2
      have he : errD (d.cut (ByteArray.mk nm.toArray).data.toList (g.size : Nat)).1 = errD R.1 := by show errD (d.cut nm (g.size : Nat)).1 = _; rw [HR.out]
      rw [HR.out] at h2
      rw [he]
      exact ⟨_, rfl, hN _ h3 ⟨_, HF3.out.disk h2 h3⟩⟩
    ((with_reducible apply Ch.Walk.eq); (case hd => rfl); (case hi => rfl); case h => (intro w2 hw2 N hN; simp only [Ch.depsOf, List.filterMap_nil, List.filterMap_cons, List.getElem?_toArray, List.getElem?_cons_zero, List.getElem?_cons_succ, Option.bind_some, List.nil_append, List.cons_append, Ch.Ob]; go_simp; (try go_bits); with_reducible exact hN _ (Chg.refl _ _) (fun _ h => h)))
    intro w6 hw6
    simp only [List.nil_append, List.cons_append, Ch.Fin, List.map_cons, List.map_nil, List.getD_cons_zero, List.getD_cons_succ]
    intro hF
    have HF : Hid (∃ S', SgS B w6 p s S' v R.2 g) := hF
    have HW6 := Lib.hid hw6
    clear hF hw6 c1 c4
    by_cases hr : R.1 = 0
    · have hev : errD R.1 = .nilIface := by rw [hr]; rfl
      rw [hev]
      have HRZ := Lib.hid hr
      clear hev hr
      refine Exists.elim HF.out fun S9 h9 => ?_
      have HS9 := Lib.hid h9
      have c4 := h9.m.c.cell (j := 4) rfl
      have hsub : wrap64 ((al : Int) - (g.size : Int)) = (junk.length : Int) := by
        have h1 := HAL.out
        have h2 := HGS.out
        have h3 := HFL.out
        rw [List.length_append] at h1 h3
        unfold wrap64; omega
      clear h9 HF
      go_simp
      go_wp2_with fail
      go_upto_region 13 with fail
      refine Ch.wp_region_chain _ (Chg (Nil)) [] (fun _ _ => True) (by kernel_rfl) (fun _ => Chg.refl _ _) (fun _ _ _ h k => h.trans k (fun _ h => .inl h)) [[], [], [], [2], [3], [4], [1, 5], [0], [6], []] rfl (by kernel_rfl) (by kernel_rfl) (Chg.refl _ _).drew ?_ ?_
      · trivial
      iterate 5 ((with_reducible apply Ch.Walk.eq); (case hd => rfl); (case hi => rfl); case h => (intro w2 hw2 N hN; simp only [Ch.depsOf, List.filterMap_nil, List.filterMap_cons, List.getElem?_toArray, List.getElem?_cons_zero, List.getElem?_cons_succ, Option.bind_some, List.nil_append, List.cons_append, Ch.Ob]; go_simp; (try go_bits); with_reducible exact hN _ (Chg.refl _ _) (fun _ h => h)))
      ((with_reducible apply Ch.Walk.eq); (case hd => rfl); (case hi => rfl); case h => (intro w2 hw2 N hN; (have hq := hw2.cell c4 (fun h => h)); simp only [Ch.depsOf, List.filterMap_nil, List.filterMap_cons, List.getElem?_toArray, List.getElem?_cons_zero, List.getElem?_cons_succ, Option.bind_some, List.nil_append, List.cons_append, Ch.Ob]; go_simp; (try go_bits); with_reducible exact hN _ (Chg.refl _ _) (fun _ h => h)))
      iterate 4 ((with_reducible apply Ch.Walk.eq); (case hd => rfl); (case hi => rfl); case h => (intro w2 hw2 N hN; simp only [Ch.depsOf, List.filterMap_nil, List.filterMap_cons, List.getElem?_toArray, List.getElem?_cons_zero, List.getElem?_cons_succ, Option.bind_some, List.nil_append, List.cons_append, Ch.Ob]; go_simp; (try go_bits); with_reducible exact hN _ (Chg.refl _ _) (fun _ h => h)))
      intro w8 hw8
      simp only [List.nil_append, List.cons_append, Ch.Fin, List.map_cons, List.map_nil, List.getD_cons_zero, List.getD_cons_succ]
      intro _
      have HW8 := Lib.hid hw8
      clear hw8 hsub c4
      go_simp
      go_wp2_with fail
      go_ret3
      rw [HRO.out]
      exact ⟨((HC1.out.weak (S' := S) (fun _ h => h.elim)).trans HW6.out (fun _ h => .inl h)).trans HW8.out (fun _ h => h.elim), S9, (HS9.out.nil HW8.out).ds, .inl ⟨HRZ.out, s, v, g, HHA.out, rfl, HS9.out.nil HW8.out, HGN.out, HGB.out, HOF.out⟩⟩
    · have hev : errD R.1 = .iface 32 (.int .i64 (R.1 : Nat)) := errD_ne hr
      rw [hev]
      have HRZ := Lib.hid hr
      clear hev hr
      go_simp
      go_wp2_with fail
      go_ret3
      rw [HRO.out]
      obtain ⟨S9, h9⟩ := HF.out
      exact ⟨(HC1.out.weak (S' := S) (fun _ h => h.elim)).trans HW6.out (fun _ h => .inl h), S9, h9.ds, .inr ⟨HRZ.out, congrArg (fun v => Ending.returned (.tuple #[.pointer none, .int .i64 0, v])) (errD_ne HRZ.out).symm⟩⟩
end Go.Proofs.YtmaomebnigcgeaaGreatDoor
