/-
  The walks of size and whole: how long the frame at the beginning of bytes is.
-/
import Derived.Test.YtmklicodfiggnaaDoorAskedL
import Derived.Test.YtmklicodfiggnaaDoorBoxW
import Derived.Test.YtmklicodfiggnaaDoorLast
import Derived.Outline
import Derived.Deep.DeepCutAuto
set_option linter.unusedSimpArgs false
namespace Go.Proofs.YtmklicodfiggnaaDoor
open Go.RowKit

theorem sizeErr_12 {l : List UInt8} (h : l.length < 4) : sizeErr l = 12 := by unfold sizeErr; rw [if_pos h]
theorem sizeErr_4 {l : List UInt8} (h : ¬ l.length < 4) (h2 : fromB l < 1 ∨ 10000 < fromB l) : sizeErr l = 4 := by unfold sizeErr; rw [if_neg h, if_pos h2]
theorem sizeErr_short {l : List UInt8} (h : ¬ l.length < 4) (h2 : ¬ (fromB l < 1 ∨ 10000 < fromB l)) (h3 : l.length < fromB l + 4) : sizeErr l = 12 := by unfold sizeErr; rw [if_neg h, if_neg h2, if_pos h3]
theorem sizeErr_0 {l : List UInt8} (h : ¬ l.length < 4) (h2 : ¬ (fromB l < 1 ∨ 10000 < fromB l)) (h3 : ¬ l.length < fromB l + 4) : sizeErr l = 0 := by unfold sizeErr; rw [if_neg h, if_neg h2, if_neg h3]
theorem sizeErr_good {l : List UInt8} (h : sizeErr l = 0) : ¬ l.length < 4 ∧ 1 ≤ fromB l ∧ fromB l ≤ 10000 ∧ fromB l + 4 ≤ l.length := by
  by_cases g1 : l.length < 4
  · rw [sizeErr_12 g1] at h; cases h
  by_cases g2 : fromB l < 1 ∨ 10000 < fromB l
  · rw [sizeErr_4 g1 g2] at h; cases h
  by_cases g3 : l.length < fromB l + 4
  · rw [sizeErr_short g1 g2 g3] at h; cases h
  omega

theorem fromB_eq (l : List UInt8) : fromB l = (((l.getD 0 0).toNat * 256 + (l.getD 1 0).toNat) * 256 + (l.getD 2 0).toNat) * 256 + (l.getD 3 0).toNat := by
  unfold fromB
  simp only [fromTo, Nat.zero_mul, Nat.zero_add]
/-- What a size leaves. -/
def SizePost (bad : Nat → Value) (w : World) (l : List UInt8) (e : Ending) (w' : World) : Prop :=
  Chg Nil w w' ∧ ((sizeErr l ≠ 0 ∧ e = .returned (.tuple #[.int .i64 0, bad (sizeErr l)])) ∨ (sizeErr l = 0 ∧ e = .returned (.tuple #[.int .i64 ((fromB l + 4 : Nat) : Int), bad 0])))

set_option maxHeartbeats 1000000 in
set_option maxRecDepth 100000 in
theorem wsize_any (a : Option Addr) (l : List UInt8) (cap : Nat) (w : World) (hl : l.length ≤ maxLen) (hb : BytesAt w a l) :
    Calls Tryd.prog 39 #[.slice a l.length cap] w (SizePost (errV 26) w l) := by
  by_cases h4 : l.length < 4
  · have HE := Lib.hid (sizeErr_12 h4)
    go_enter Tryd.func39, Tryd.ntmps39
    go_wp2
    go_ret2
    exact ⟨Chg.refl _ _, .inl ⟨by rw [HE.out]; simp, by rw [HE.out]; rfl⟩⟩
  · have HF := Lib.hid (from_any a l cap w hl (by omega) hb)
    unfold maxLen at hl
    have H4 := Lib.hid (fun h => sizeErr_4 (l := l) h4 h)
    have H12 := Lib.hid (fun h h' => sizeErr_short (l := l) h4 h h')
    have H0 := Lib.hid (fun h h' => sizeErr_0 (l := l) h4 h h')
    have HP : ∀ e w', (Chg Nil w w' ∧ ((sizeErr l ≠ 0 ∧ e = .returned (.tuple #[.int .i64 0, errV 26 (sizeErr l)])) ∨ (sizeErr l = 0 ∧ e = .returned (.tuple #[.int .i64 ((fromB l + 4 : Nat) : Int), errV 26 0])))) → SizePost (errV 26) w l e w' := fun _ _ h => h
    generalize hn : fromB l = n at *
    clear hn hb
    go_enter Tryd.func39, Tryd.ntmps39
    go_wp2_with fail
    refine HF.out.mono ?_
    rintro e w1 ⟨rfl, rfl⟩
    by_cases h1 : n < 1
    · have HX := Lib.hid (H4.out (.inl h1))
      go_wp2_with fail
      go_ret2
      exact HP _ _ ⟨Chg.refl _ _, .inl ⟨by rw [HX.out]; simp, by rw [HX.out]; rfl⟩⟩
    by_cases h2 : 10000 < n
    · have HX := Lib.hid (H4.out (.inr h2))
      go_wp2_with fail
      go_ret2
      exact HP _ _ ⟨Chg.refl _ _, .inl ⟨by rw [HX.out]; simp, by rw [HX.out]; rfl⟩⟩
    by_cases h3 : l.length < n + 4
    · have HX := Lib.hid (H12.out (by omega) h3)
      go_wp2_with fail
      go_ret2
      exact HP _ _ ⟨Chg.refl _ _, .inl ⟨by rw [HX.out]; simp, by rw [HX.out]; rfl⟩⟩
    · have HX := Lib.hid (H0.out (by omega) h3)
      go_wp2_with fail
      go_ret2
      exact HP _ _ ⟨Chg.refl _ _, .inr ⟨HX.out, by rw [show (4 : Int) + (n : Int) = ((n + 4 : Nat) : Int) by omega]; rfl⟩⟩

set_option maxHeartbeats 1000000 in
set_option maxRecDepth 100000 in
theorem whole_any (a : Option Addr) (l : List UInt8) (cap : Nat) (w : World) (hl : l.length ≤ maxLen) (hb : BytesAt w a l) :
    Calls Tryd.prog 34 #[.slice a l.length cap] w (SizePost (fun n => .int .i64 (n : Nat)) w l) := by
  by_cases h4 : l.length < 4
  · have HE := Lib.hid (sizeErr_12 h4)
    go_enter Tryd.func34, Tryd.ntmps34
    go_wp2
    go_ret2
    exact ⟨Chg.refl _ _, .inl ⟨by rw [HE.out]; simp, by rw [HE.out]; rfl⟩⟩
  obtain ⟨b, off, rfl⟩ := hb.some (by omega)
  have H4 := Lib.hid (fun h => sizeErr_4 (l := l) h4 h)
  have H12 := Lib.hid (fun h h' => sizeErr_short (l := l) h4 h h')
  have H0 := Lib.hid (fun h h' => sizeErr_0 (l := l) h4 h h')
  have HFB := Lib.hid (fromB_eq l)
  have hg : ∀ j (h : j < l.length), (l.getD j 0).toNat = l[j].toNat := fun j h => by rw [List.getD_eq_getElem?_getD, List.getElem?_eq_getElem h]; rfl
  have e0 := hg 0 (by omega)
  have e1 := hg 1 (by omega)
  have e2 := hg 2 (by omega)
  have e3 := hg 3 (by omega)
  have k0 := hb 0 (by omega)
  have k1 := hb 1 (by omega)
  have k2 := hb 2 (by omega)
  have k3 := hb 3 (by omega)
  obtain ⟨_, _, q0, k0⟩ := k0
  cases q0
  obtain ⟨_, _, q1, k1⟩ := k1
  cases q1
  obtain ⟨_, _, q2, k2⟩ := k2
  cases q2
  obtain ⟨_, _, q3, k3⟩ := k3
  cases q3
  have l0 : l[0].toNat < 256 := l[0].toNat_lt
  have l1 : l[1].toNat < 256 := l[1].toNat_lt
  have l2 : l[2].toNat < 256 := l[2].toNat_lt
  have l3 : l[3].toNat < 256 := l[3].toNat_lt
  have HF2 : Hid (fromB l = ((l[0].toNat * 256 + l[1].toNat) * 256 + l[2].toNat) * 256 + l[3].toNat) := by unfold Hid; rw [HFB.out, e0, e1, e2, e3]
  have m0 : bval l[0] = .int .u8 (l[0].toNat : Nat) := rfl
  have m1 : bval l[1] = .int .u8 (l[1].toNat : Nat) := rfl
  have m2 : bval l[2] = .int .u8 (l[2].toNat : Nat) := rfl
  have m3 : bval l[3] = .int .u8 (l[3].toNat : Nat) := rfl
  rw [m0, Nat.add_zero] at k0
  rw [m1] at k1
  rw [m2] at k2
  rw [m3] at k3
  clear e0 e1 e2 e3 hg HFB hb m0 m1 m2 m3
  generalize l[0].toNat = b0 at *
  generalize l[1].toNat = b1 at *
  generalize l[2].toNat = b2 at *
  generalize l[3].toNat = b3 at *
  unfold maxLen at hl
  have p0 : 0 < l.length := by omega
  have p1 : (1 : Int) < (l.length : Int) := by omega
  have p2 : (2 : Int) < (l.length : Int) := by omega
  have p3 : (3 : Int) < (l.length : Int) := by omega
  go_enter Tryd.func34, Tryd.ntmps34
  go_upto_region 3 with fail
  refine Ch.wp_region_chain _ (Chg (Nil)) [] (fun _ _ => True) (by kernel_rfl) (fun _ => Chg.refl _ _) (fun _ _ _ h k => h.trans k (fun _ h => .inl h)) [[], [0], [1], [2], [3], [], [5], [6], [7], [8], [4, 9], [], [11], [12], [13], [14], [10, 15], [], [17], [18], [19], [16, 20], [21]] rfl (by kernel_rfl) (by kernel_rfl) (Chg.refl _ _).drew ?_ ?_
  · trivial
  iterate 2 ((with_reducible apply Ch.Walk.eq); (case hd => rfl); (case hi => rfl); case h => (intro w2 hw2 N hN; simp only [Ch.depsOf, List.filterMap_nil, List.filterMap_cons, List.getElem?_toArray, List.getElem?_cons_zero, List.getElem?_cons_succ, Option.bind_some, List.nil_append, List.cons_append, Ch.Ob]; go_simp; (try go_bits); with_reducible exact hN _ (Chg.refl _ _) (fun _ h => h)))
  ((with_reducible apply Ch.Walk.eq); (case hd => rfl); (case hi => rfl); case h => (intro w2 hw2 N hN; (have hc := hw2.cell k0 (fun h => h)); simp only [Ch.depsOf, List.filterMap_nil, List.filterMap_cons, List.getElem?_toArray, List.getElem?_cons_zero, List.getElem?_cons_succ, Option.bind_some, List.nil_append, List.cons_append, Ch.Ob]; go_simp; (try go_bits); with_reducible exact hN _ (Chg.refl _ _) (fun _ h => h)))
  ((with_reducible apply Ch.Walk.eq); (case hd => rfl); (case hi => rfl); case h => (intro w2 hw2 N hN; simp only [Ch.depsOf, List.filterMap_nil, List.filterMap_cons, List.getElem?_toArray, List.getElem?_cons_zero, List.getElem?_cons_succ, Option.bind_some, List.nil_append, List.cons_append, Ch.Ob]; go_simp; (try go_bits); with_reducible exact hN _ (Chg.refl _ _) (fun _ h => h)))
  ((with_reducible apply Ch.Walk.eq); (case hd => rfl); (case hi => rfl); case h => (intro w2 hw2 N hN; simp only [Ch.depsOf, List.filterMap_nil, List.filterMap_cons, List.getElem?_toArray, List.getElem?_cons_zero, List.getElem?_cons_succ, Option.bind_some, List.nil_append, List.cons_append, Ch.Ob]; go_simp; (try go_bits); with_reducible exact hN _ (Chg.refl _ _) (fun _ h => h)))
  iterate 2 ((with_reducible apply Ch.Walk.eq); (case hd => rfl); (case hi => rfl); case h => (intro w2 hw2 N hN; simp only [Ch.depsOf, List.filterMap_nil, List.filterMap_cons, List.getElem?_toArray, List.getElem?_cons_zero, List.getElem?_cons_succ, Option.bind_some, List.nil_append, List.cons_append, Ch.Ob]; go_simp; (try go_bits); with_reducible exact hN _ (Chg.refl _ _) (fun _ h => h)))
  ((with_reducible apply Ch.Walk.eq); (case hd => rfl); (case hi => rfl); case h => (intro w2 hw2 N hN; (have hc := hw2.cell k1 (fun h => h)); simp only [Ch.depsOf, List.filterMap_nil, List.filterMap_cons, List.getElem?_toArray, List.getElem?_cons_zero, List.getElem?_cons_succ, Option.bind_some, List.nil_append, List.cons_append, Ch.Ob]; go_simp; (try go_bits); with_reducible exact hN _ (Chg.refl _ _) (fun _ h => h)))
  iterate 3 ((with_reducible apply Ch.Walk.eq); (case hd => rfl); (case hi => rfl); case h => (intro w2 hw2 N hN; simp only [Ch.depsOf, List.filterMap_nil, List.filterMap_cons, List.getElem?_toArray, List.getElem?_cons_zero, List.getElem?_cons_succ, Option.bind_some, List.nil_append, List.cons_append, Ch.Ob]; go_simp; (try go_bits); with_reducible exact hN _ (Chg.refl _ _) (fun _ h => h)))
  iterate 2 ((with_reducible apply Ch.Walk.eq); (case hd => rfl); (case hi => rfl); case h => (intro w2 hw2 N hN; simp only [Ch.depsOf, List.filterMap_nil, List.filterMap_cons, List.getElem?_toArray, List.getElem?_cons_zero, List.getElem?_cons_succ, Option.bind_some, List.nil_append, List.cons_append, Ch.Ob]; go_simp; (try go_bits); with_reducible exact hN _ (Chg.refl _ _) (fun _ h => h)))
  ((with_reducible apply Ch.Walk.eq); (case hd => rfl); (case hi => rfl); case h => (intro w2 hw2 N hN; (have hc := hw2.cell k2 (fun h => h)); simp only [Ch.depsOf, List.filterMap_nil, List.filterMap_cons, List.getElem?_toArray, List.getElem?_cons_zero, List.getElem?_cons_succ, Option.bind_some, List.nil_append, List.cons_append, Ch.Ob]; go_simp; (try go_bits); with_reducible exact hN _ (Chg.refl _ _) (fun _ h => h)))
  iterate 3 ((with_reducible apply Ch.Walk.eq); (case hd => rfl); (case hi => rfl); case h => (intro w2 hw2 N hN; simp only [Ch.depsOf, List.filterMap_nil, List.filterMap_cons, List.getElem?_toArray, List.getElem?_cons_zero, List.getElem?_cons_succ, Option.bind_some, List.nil_append, List.cons_append, Ch.Ob]; go_simp; (try go_bits); with_reducible exact hN _ (Chg.refl _ _) (fun _ h => h)))
  iterate 2 ((with_reducible apply Ch.Walk.eq); (case hd => rfl); (case hi => rfl); case h => (intro w2 hw2 N hN; simp only [Ch.depsOf, List.filterMap_nil, List.filterMap_cons, List.getElem?_toArray, List.getElem?_cons_zero, List.getElem?_cons_succ, Option.bind_some, List.nil_append, List.cons_append, Ch.Ob]; go_simp; (try go_bits); with_reducible exact hN _ (Chg.refl _ _) (fun _ h => h)))
  ((with_reducible apply Ch.Walk.eq); (case hd => rfl); (case hi => rfl); case h => (intro w2 hw2 N hN; (have hc := hw2.cell k3 (fun h => h)); simp only [Ch.depsOf, List.filterMap_nil, List.filterMap_cons, List.getElem?_toArray, List.getElem?_cons_zero, List.getElem?_cons_succ, Option.bind_some, List.nil_append, List.cons_append, Ch.Ob]; go_simp; (try go_bits); with_reducible exact hN _ (Chg.refl _ _) (fun _ h => h)))
  iterate 3 ((with_reducible apply Ch.Walk.eq); (case hd => rfl); (case hi => rfl); case h => (intro w2 hw2 N hN; simp only [Ch.depsOf, List.filterMap_nil, List.filterMap_cons, List.getElem?_toArray, List.getElem?_cons_zero, List.getElem?_cons_succ, Option.bind_some, List.nil_append, List.cons_append, Ch.Ob]; go_simp; (try go_bits); with_reducible exact hN _ (Chg.refl _ _) (fun _ h => h)))
  intro w2 hw2
  simp only [List.nil_append, List.cons_append, Ch.Fin, List.map_cons, List.map_nil, List.getD_cons_zero, List.getD_cons_succ]
  go_simp
  have hE : (b0 : Int) * 16777216 + (b1 : Int) * 65536 + (b2 : Int) * 256 + (b3 : Int) = ((fromB l : Nat) : Int) := by rw [HF2.out]; omega
  rw [hE]
  clear hE k0 k1 k2 k3 l0 l1 l2 l3 HF2 p0 p1 p2 p3
  have HW := Lib.hid hw2
  have HP : ∀ e w', (Chg Nil w w' ∧ ((sizeErr l ≠ 0 ∧ e = .returned (.tuple #[.int .i64 0, .int .i64 (sizeErr l : Nat)])) ∨ (sizeErr l = 0 ∧ e = .returned (.tuple #[.int .i64 ((fromB l + 4 : Nat) : Int), .int .i64 ((0 : Nat) : Int)])))) → SizePost (fun n => .int .i64 (n : Nat)) w l e w' := fun _ _ h => h
  clear hw2
  generalize hn : fromB l = n at *
  clear hn
  by_cases h1 : n < 1
  · have HX := Lib.hid (H4.out (.inl h1))
    go_wp2_with fail
    go_ret2
    exact HP _ _ ⟨HW.out, .inl ⟨by rw [HX.out]; simp, by rw [HX.out]; rfl⟩⟩
  by_cases h2 : 10000 < n
  · have HX := Lib.hid (H4.out (.inr h2))
    go_wp2_with fail
    go_ret2
    exact HP _ _ ⟨HW.out, .inl ⟨by rw [HX.out]; simp, by rw [HX.out]; rfl⟩⟩
  by_cases h3 : l.length < n + 4
  · have HX := Lib.hid (H12.out (by omega) h3)
    go_wp2_with fail
    go_ret2
    exact HP _ _ ⟨HW.out, .inl ⟨by rw [HX.out]; simp, by rw [HX.out]; rfl⟩⟩
  · have HX := Lib.hid (H0.out (by omega) h3)
    go_wp2_with fail
    go_ret2
    exact HP _ _ ⟨HW.out, .inr ⟨HX.out, rfl⟩⟩
end Go.Proofs.YtmklicodfiggnaaDoor
