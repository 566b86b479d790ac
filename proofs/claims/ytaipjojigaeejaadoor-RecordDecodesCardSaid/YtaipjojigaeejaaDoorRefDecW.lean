/-
  The walk of the document's Decode.
-/
import Derived.Test.YtaipjojigaeejaaDoorTakerW
import Derived.Test.YtaipjojigaeejaaDoorRecordEncodesW
import Derived.Test.YtaipjojigaeejaaDoorLast
import Derived.Outline
import Derived.Deep.DeepCutAuto
set_option linter.unusedSimpArgs false
namespace Go.Proofs.YtaipjojigaeejaaDoor
open Go.RowKit

/-- What the document's Decode leaves. -/
def RefDecPost (w : World) (l : List UInt8) (e : Ending) (w' : World) : Prop :=
  Chg Nil w w' ∧ ((refDecErr l ≠ 0 ∧ e = .returned (.tuple #[.agg #[.int .i64 0, .int .i64 0, .slice none 0 0], .int .i64 0, .int .i64 (refDecErr l : Nat)])) ∨
    (refDecErr l = 0 ∧ ∃ v, e = .returned (.tuple #[.agg #[.int .i64 ((tkParse ((l.take (fromB l)).drop 8)).base : Nat), .int .i64 (((tkParse ((l.take (fromB l)).drop 8)).base : Int) + ((tkParse ((l.take (fromB l)).drop 8)).len : Nat)), v], .int .i64 (fromB l : Nat), .int .i64 0]) ∧
      OwnR 51 w' v (tkParse ((l.take (fromB l)).drop 8)).recs ∧ ∀ k, v.ownBlock = some k → w.heap.size ≤ k))

/-- Two blocks of zeros: the results' and the empty batch's. -/
def TwoZ (n : Nat) (w : World) : Prop := Box w n [.int .i64 0, .int .i64 0, .slice none 0 0] 24 ∧ Box w (n + 1) [.int .i64 0, .int .i64 0, .slice none 0 0] 24
theorem TwoZ.chg {S : Nat → Prop} {n : Nat} {w w' : World} (h : TwoZ n w) (hc : Chg S w w') (h1 : ¬ S n) (h2 : ¬ S (n + 1)) : TwoZ n w' := ⟨h.1.chg hc h1, h.2.chg hc h2⟩

set_option maxHeartbeats 400000 in
set_option maxRecDepth 100000 in
theorem refdecode_short (a : Option Addr) (l : List UInt8) (cap : Nat) (w : World) (h8 : l.length < 8) :
    Calls Tryd.prog 12 #[.slice a l.length cap] w (RefDecPost w l) := by
  have HE : Hid (refDecErr l = 12) := by unfold Hid refDecErr; rw [if_pos h8]
  go_enter Tryd.func12, Tryd.ntmps12
  go_wp2
  refine bodyPost_ret (v := .tuple #[.agg #[.int .i64 0, .int .i64 0, .slice none 0 0], .int .i64 0, .int .i64 12]) (by simp [results, Tryd.results12, go_sem]) rfl ⟨?_, .inl ⟨by rw [HE.out]; simp, by rw [HE.out]; rfl⟩⟩
  exact ((Chg.refl _ _).alloc _).alloc _

set_option maxHeartbeats 4000000 in
set_option maxRecDepth 100000 in
theorem refdecode_rest (a : Option Addr) (l : List UInt8) (cap : Nat) (w : World) (h8 : ¬ l.length < 8) (hcap : l.length ≤ cap) (hl : cap ≤ maxLen) (hb : BytesAt w a l) :
    Calls Tryd.prog 12 #[.slice a l.length cap] w (RefDecPost w l) := by
  obtain ⟨b, off, rfl⟩ := hb.some (by omega)
  have hch0 : Chg Nil w ((w.alloc (.cells #[.int .i64 0, .int .i64 0, .slice none 0 0] 24)).alloc (.cells #[.int .i64 0, .int .i64 0, .slice none 0 0] 24)) := ((Chg.refl _ _).alloc _).alloc _
  have hz : Box ((w.alloc (.cells #[.int .i64 0, .int .i64 0, .slice none 0 0] 24)).alloc (.cells #[.int .i64 0, .int .i64 0, .slice none 0 0] 24)) w.heap.size [.int .i64 0, .int .i64 0, .slice none 0 0] 24 := (Box.new w [.int .i64 0, .int .i64 0, .slice none 0 0] 24).chg ((Chg.refl Nil _).alloc _) (fun h => h)
  have hy : Box ((w.alloc (.cells #[.int .i64 0, .int .i64 0, .slice none 0 0] 24)).alloc (.cells #[.int .i64 0, .int .i64 0, .slice none 0 0] 24)) (w.heap.size + 1) [.int .i64 0, .int .i64 0, .slice none 0 0] 24 := by
    have h := Box.new (w.alloc (.cells #[.int .i64 0, .int .i64 0, .slice none 0 0] 24)) [.int .i64 0, .int .i64 0, .slice none 0 0] 24
    have e : (w.alloc (.cells #[.int .i64 0, .int .i64 0, .slice none 0 0] 24)).heap.size = w.heap.size + 1 := by simp
    rw [e] at h
    exact h
  have hbA := hch0.bytesAt hb (fun _ _ h => h)
  have HBA := Lib.hid hbA
  have hzz : TwoZ w.heap.size _ := ⟨hz, hy⟩
  clear hz hy
  have HFB := Lib.hid (fromB_eq l)
  have HB0 := Lib.hid hb
  have hg : ∀ j (h : j < l.length), (l.getD j 0).toNat = l[j].toNat := fun j h => by rw [List.getD_eq_getElem?_getD, List.getElem?_eq_getElem h]; rfl
  have e0 := hg 0 (by omega)
  have e1 := hg 1 (by omega)
  have e2 := hg 2 (by omega)
  have e3 := hg 3 (by omega)
  have k0 := hb 0 (by omega)
  have k1 := hb 1 (by omega)
  have k2 := hb 2 (by omega)
  have k3 := hb 3 (by omega)
  obtain ⟨_, _, q0, k0⟩ := k0
  cases q0
  obtain ⟨_, _, q1, k1⟩ := k1
  cases q1
  obtain ⟨_, _, q2, k2⟩ := k2
  cases q2
  obtain ⟨_, _, q3, k3⟩ := k3
  cases q3
  have k0 := hch0.cell k0 (fun h => h)
  have k1 := hch0.cell k1 (fun h => h)
  have k2 := hch0.cell k2 (fun h => h)
  have k3 := hch0.cell k3 (fun h => h)
  have l0 : l[0].toNat < 256 := l[0].toNat_lt
  have l1 : l[1].toNat < 256 := l[1].toNat_lt
  have l2 : l[2].toNat < 256 := l[2].toNat_lt
  have l3 : l[3].toNat < 256 := l[3].toNat_lt
  have HF2 : Hid (fromB l = ((l[0].toNat * 256 + l[1].toNat) * 256 + l[2].toNat) * 256 + l[3].toNat) := by unfold Hid; rw [HFB.out, e0, e1, e2, e3]
  have m0 : bval l[0] = .int .u8 (l[0].toNat : Nat) := rfl
  have m1 : bval l[1] = .int .u8 (l[1].toNat : Nat) := rfl
  have m2 : bval l[2] = .int .u8 (l[2].toNat : Nat) := rfl
  have m3 : bval l[3] = .int .u8 (l[3].toNat : Nat) := rfl
  rw [m0, Nat.add_zero] at k0
  rw [m1] at k1
  rw [m2] at k2
  rw [m3] at k3
  clear e0 e1 e2 e3 hg HFB hb hbA m0 m1 m2 m3
  generalize l[0].toNat = b0 at *
  generalize l[1].toNat = b1 at *
  generalize l[2].toNat = b2 at *
  generalize l[3].toNat = b3 at *
  unfold maxLen at hl
  have p0 : 0 < l.length := by omega
  have p1 : (1 : Int) < (l.length : Int) := by omega
  have p2 : (2 : Int) < (l.length : Int) := by omega
  have p3 : (3 : Int) < (l.length : Int) := by omega
  go_enter Tryd.func12, Tryd.ntmps12
  go_upto_region 4 with fail
  generalize hw0 : ((w.alloc (.cells #[.int .i64 0, .int .i64 0, .slice none 0 0] 24)).alloc (.cells #[.int .i64 0, .int .i64 0, .slice none 0 0] 24)) = w0 at *
  have HW0 := Lib.hid hw0
  clear hw0
  refine Ch.wp_region_chain _ (Chg (Nil)) [] (fun _ _ => True) (by kernel_rfl) (fun _ => Chg.refl _ _) (fun _ _ _ h k => h.trans k (fun _ h => .inl h)) [[], [0], [1], [2], [3], [], [5], [6], [7], [8], [4, 9], [], [11], [12], [13], [14], [10, 15], [], [17], [18], [19], [16, 20], [21]] rfl (by kernel_rfl) (by kernel_rfl) (Chg.refl _ _).drew ?_ ?_
  · trivial
  iterate 2 ((with_reducible apply Ch.Walk.eq); (case hd => rfl); (case hi => rfl); case h => (intro w2 hw2 N hN; simp only [Ch.depsOf, List.filterMap_nil, List.filterMap_cons, List.getElem?_toArray, List.getElem?_cons_zero, List.getElem?_cons_succ, Option.bind_some, List.nil_append, List.cons_append, Ch.Ob]; go_simp; (try go_bits); with_reducible exact hN _ (Chg.refl _ _) (fun _ h => h)))
  ((with_reducible apply Ch.Walk.eq); (case hd => rfl); (case hi => rfl); case h => (intro w2 hw2 N hN; (have hc := hw2.cell k0 (fun h => h)); simp only [Ch.depsOf, List.filterMap_nil, List.filterMap_cons, List.getElem?_toArray, List.getElem?_cons_zero, List.getElem?_cons_succ, Option.bind_some, List.nil_append, List.cons_append, Ch.Ob]; go_simp; (try go_bits); with_reducible exact hN _ (Chg.refl _ _) (fun _ h => h)))
  ((with_reducible apply Ch.Walk.eq); (case hd => rfl); (case hi => rfl); case h => (intro w2 hw2 N hN; simp only [Ch.depsOf, List.filterMap_nil, List.filterMap_cons, List.getElem?_toArray, List.getElem?_cons_zero, List.getElem?_cons_succ, Option.bind_some, List.nil_append, List.cons_append, Ch.Ob]; go_simp; (try go_bits); with_reducible exact hN _ (Chg.refl _ _) (fun _ h => h)))
  ((with_reducible apply Ch.Walk.eq); (case hd => rfl); (case hi => rfl); case h => (intro w2 hw2 N hN; simp only [Ch.depsOf, List.filterMap_nil, List.filterMap_cons, List.getElem?_toArray, List.getElem?_cons_zero, List.getElem?_cons_succ, Option.bind_some, List.nil_append, List.cons_append, Ch.Ob]; go_simp; (try go_bits); with_reducible exact hN _ (Chg.refl _ _) (fun _ h => h)))
  iterate 2 ((with_reducible apply Ch.Walk.eq); (case hd => rfl); (case hi => rfl); case h => (intro w2 hw2 N hN; simp only [Ch.depsOf, List.filterMap_nil, List.filterMap_cons, List.getElem?_toArray, List.getElem?_cons_zero, List.getElem?_cons_succ, Option.bind_some, List.nil_append, List.cons_append, Ch.Ob]; go_simp; (try go_bits); with_reducible exact hN _ (Chg.refl _ _) (fun _ h => h)))
  ((with_reducible apply Ch.Walk.eq); (case hd => rfl); (case hi => rfl); case h => (intro w2 hw2 N hN; (have hc := hw2.cell k1 (fun h => h)); simp only [Ch.depsOf, List.filterMap_nil, List.filterMap_cons, List.getElem?_toArray, List.getElem?_cons_zero, List.getElem?_cons_succ, Option.bind_some, List.nil_append, List.cons_append, Ch.Ob]; go_simp; (try go_bits); with_reducible exact hN _ (Chg.refl _ _) (fun _ h => h)))
  iterate 3 ((with_reducible apply Ch.Walk.eq); (case hd => rfl); (case hi => rfl); case h => (intro w2 hw2 N hN; simp only [Ch.depsOf, List.filterMap_nil, List.filterMap_cons, List.getElem?_toArray, List.getElem?_cons_zero, List.getElem?_cons_succ, Option.bind_some, List.nil_append, List.cons_append, Ch.Ob]; go_simp; (try go_bits); with_reducible exact hN _ (Chg.refl _ _) (fun _ h => h)))
  iterate 2 ((with_reducible apply Ch.Walk.eq); (case hd => rfl); (case hi => rfl); case h => (intro w2 hw2 N hN; simp only [Ch.depsOf, List.filterMap_nil, List.filterMap_cons, List.getElem?_toArray, List.getElem?_cons_zero, List.getElem?_cons_succ, Option.bind_some, List.nil_append, List.cons_append, Ch.Ob]; go_simp; (try go_bits); with_reducible exact hN _ (Chg.refl _ _) (fun _ h => h)))
  ((with_reducible apply Ch.Walk.eq); (case hd => rfl); (case hi => rfl); case h => (intro w2 hw2 N hN; (have hc := hw2.cell k2 (fun h => h)); simp only [Ch.depsOf, List.filterMap_nil, List.filterMap_cons, List.getElem?_toArray, List.getElem?_cons_zero, List.getElem?_cons_succ, Option.bind_some, List.nil_append, List.cons_append, Ch.Ob]; go_simp; (try go_bits); with_reducible exact hN _ (Chg.refl _ _) (fun _ h => h)))
  iterate 3 ((with_reducible apply Ch.Walk.eq); (case hd => rfl); (case hi => rfl); case h => (intro w2 hw2 N hN; simp only [Ch.depsOf, List.filterMap_nil, List.filterMap_cons, List.getElem?_toArray, List.getElem?_cons_zero, List.getElem?_cons_succ, Option.bind_some, List.nil_append, List.cons_append, Ch.Ob]; go_simp; (try go_bits); with_reducible exact hN _ (Chg.refl _ _) (fun _ h => h)))
  iterate 2 ((with_reducible apply Ch.Walk.eq); (case hd => rfl); (case hi => rfl); case h => (intro w2 hw2 N hN; simp only [Ch.depsOf, List.filterMap_nil, List.filterMap_cons, List.getElem?_toArray, List.getElem?_cons_zero, List.getElem?_cons_succ, Option.bind_some, List.nil_append, List.cons_append, Ch.Ob]; go_simp; (try go_bits); with_reducible exact hN _ (Chg.refl _ _) (fun _ h => h)))
  ((with_reducible apply Ch.Walk.eq); (case hd => rfl); (case hi => rfl); case h => (intro w2 hw2 N hN; (have hc := hw2.cell k3 (fun h => h)); simp only [Ch.depsOf, List.filterMap_nil, List.filterMap_cons, List.getElem?_toArray, List.getElem?_cons_zero, List.getElem?_cons_succ, Option.bind_some, List.nil_append, List.cons_append, Ch.Ob]; go_simp; (try go_bits); with_reducible exact hN _ (Chg.refl _ _) (fun _ h => h)))
  iterate 3 ((with_reducible apply Ch.Walk.eq); (case hd => rfl); (case hi => rfl); case h => (intro w2 hw2 N hN; simp only [Ch.depsOf, List.filterMap_nil, List.filterMap_cons, List.getElem?_toArray, List.getElem?_cons_zero, List.getElem?_cons_succ, Option.bind_some, List.nil_append, List.cons_append, Ch.Ob]; go_simp; (try go_bits); with_reducible exact hN _ (Chg.refl _ _) (fun _ h => h)))
  intro w2 hw2
  simp only [List.nil_append, List.cons_append, Ch.Fin, List.map_cons, List.map_nil, List.getD_cons_zero, List.getD_cons_succ]
  go_simp
  have hE : (b0 : Int) * 16777216 + (b1 : Int) * 65536 + (b2 : Int) * 256 + (b3 : Int) = ((fromB l : Nat) : Int) := by rw [HF2.out]; omega
  rw [hE]
  clear hE
  have hz := hzz.chg hw2 (fun h => h) (fun h => h)
  have hch2 : Chg Nil w w2 := hch0.trans hw2 (fun _ h => .inl h)
  have hbW := hw2.bytesAt HBA.out (fun _ _ h => h)
  have HBW := Lib.hid hbW
  have hwg : w.heap.size + 1 < w2.heap.size := (Array.getElem?_eq_some_iff.1 hz.2).1
  have hbk : b < w2.heap.size := by
    obtain ⟨b', off', hbb, hcc⟩ := hbW 0 (by omega)
    cases hbb
    exact World.block_lt_of_cell? _ _ hcc
  clear k0 k1 k2 k3 l0 l1 l2 l3 HF2 p0 p1 p2 p3 hbW HBA hw2 hzz hch0 HW0
  have HP : ∀ e w', (Chg Nil w w' ∧ ((refDecErr l ≠ 0 ∧ e = .returned (.tuple #[.agg #[.int .i64 0, .int .i64 0, .slice none 0 0], .int .i64 0, .int .i64 (refDecErr l : Nat)])) ∨
    (refDecErr l = 0 ∧ ∃ v, e = .returned (.tuple #[.agg #[.int .i64 ((tkParse ((l.take (fromB l)).drop 8)).base : Nat), .int .i64 (((tkParse ((l.take (fromB l)).drop 8)).base : Int) + ((tkParse ((l.take (fromB l)).drop 8)).len : Nat)), v], .int .i64 (fromB l : Nat), .int .i64 0]) ∧
      OwnR 51 w' v (tkParse ((l.take (fromB l)).drop 8)).recs ∧ ∀ k, v.ownBlock = some k → w.heap.size ≤ k))) → RefDecPost w l e w' := fun e w' h => h
  have hS0 : Hid (refDecErr l = if fromB l < 11 ∨ 6000 < fromB l then 3 else if l.length < fromB l then 12
  else if (tkParse ((l.take (fromB l)).drop 8)).st.2 = true ∨
      encErr (tkParse ((l.take (fromB l)).drop 8)).base ((tkParse ((l.take (fromB l)).drop 8)).base + (tkParse ((l.take (fromB l)).drop 8)).len : Int) (tkParse ((l.take (fromB l)).drop 8)).recs ≠ 0 ∨
      encAll (tkParse ((l.take (fromB l)).drop 8)).base ((tkParse ((l.take (fromB l)).drop 8)).base + (tkParse ((l.take (fromB l)).drop 8)).len : Int) (tkParse ((l.take (fromB l)).drop 8)).recs ≠ l.take (fromB l) then 3 else 0) := by
    unfold Hid refDecErr; rw [if_neg h8]
  have hlb : fromB l ≤ l.length → ((l.take (fromB l)).drop 8).length = fromB l - 8 := fun h => by rw [List.length_drop, List.length_take]; omega
  have hlt8 : fromB l ≤ l.length → (l.take (fromB l)).length = fromB l := fun h => by rw [List.length_take]; omega
  generalize hn : fromB l = n at *
  clear hn
  have zeros : ∀ w3, Chg Nil w w3 → TwoZ w.heap.size w3 → True := fun _ _ _ => trivial
  clear zeros
  by_cases g1 : n < 11 ∨ 6000 < n
  · have HX3 : Hid (refDecErr l = 3) := by unfold Hid; rw [hS0.out, if_pos g1]
    obtain ⟨hz1, hz2⟩ := hz
    have n0 := hz2.cell (j := 0) rfl
    have n1 := hz2.cell (j := 1) rfl
    have n2 := hz2.cell (j := 2) rfl
    have z0 := hz1.cell (j := 0) rfl
    have z1 := hz1.cell (j := 1) rfl
    have z2 := hz1.cell (j := 2) rfl
    have y0 := hz1.free 0
    have y1 := hz1.free 1
    have y2 := hz1.free 2
    clear hlb hlt8 hS0
    by_cases h11 : n < 11
    · clear g1
      go_wp2_with fail
      refine bodyPost_ret (v := .tuple #[.agg #[.int .i64 0, .int .i64 0, .slice none 0 0], .int .i64 0, .int .i64 3]) (by simp [results, Tryd.results12, go_sem, z0, z1, z2]) rfl (HP _ _ ⟨?_, .inl ⟨by rw [HX3.out]; simp, by rw [HX3.out]; rfl⟩⟩)
      exact ((hch2.setCell (.inr (Nat.le_refl _)) _).setCell (.inr (Nat.le_refl _)) _).setCell (.inr (Nat.le_refl _)) _
    · have h6 : 6000 < n := by omega
      clear g1
      go_wp2_with fail
      refine bodyPost_ret (v := .tuple #[.agg #[.int .i64 0, .int .i64 0, .slice none 0 0], .int .i64 0, .int .i64 3]) (by simp [results, Tryd.results12, go_sem, z0, z1, z2]) rfl (HP _ _ ⟨?_, .inl ⟨by rw [HX3.out]; simp, by rw [HX3.out]; rfl⟩⟩)
      exact ((hch2.setCell (.inr (Nat.le_refl _)) _).setCell (.inr (Nat.le_refl _)) _).setCell (.inr (Nat.le_refl _)) _
  by_cases g2 : l.length < n
  · have HX3 : Hid (refDecErr l = 12) := by unfold Hid; rw [hS0.out, if_neg g1, if_pos g2]
    obtain ⟨hz1, hz2⟩ := hz
    have n0 := hz2.cell (j := 0) rfl
    have n1 := hz2.cell (j := 1) rfl
    have n2 := hz2.cell (j := 2) rfl
    have z0 := hz1.cell (j := 0) rfl
    have z1 := hz1.cell (j := 1) rfl
    have z2 := hz1.cell (j := 2) rfl
    have y0 := hz1.free 0
    have y1 := hz1.free 1
    have y2 := hz1.free 2
    clear hlb hlt8 hS0
    have h11 : ¬ n < 11 := by omega
    have h6 : ¬ 6000 < n := by omega
    clear g1
    go_wp2_with fail
    refine bodyPost_ret (v := .tuple #[.agg #[.int .i64 0, .int .i64 0, .slice none 0 0], .int .i64 0, .int .i64 12]) (by simp [results, Tryd.results12, go_sem, z0, z1, z2]) rfl (HP _ _ ⟨?_, .inl ⟨by rw [HX3.out]; simp, by rw [HX3.out]; rfl⟩⟩)
    exact ((hch2.setCell (.inr (Nat.le_refl _)) _).setCell (.inr (Nat.le_refl _)) _).setCell (.inr (Nat.le_refl _)) _
  have h11 : ¬ n < 11 := by omega
  have h6 : ¬ 6000 < n := by omega
  have hlb := hlb (by omega)
  have hlt8 := hlt8 (by omega)
  have hnc : n ≤ cap := by omega
  have h8n : (8 : Int) ≤ n := by omega
  have hc8 : ¬ cap = 8 := by omega
  have HX : Hid (refDecErr l = if (tkParse ((l.take n).drop 8)).st.2 = true ∨
      encErr (tkParse ((l.take n).drop 8)).base ((tkParse ((l.take n).drop 8)).base + (tkParse ((l.take n).drop 8)).len : Int) (tkParse ((l.take n).drop 8)).recs ≠ 0 ∨
      encAll (tkParse ((l.take n).drop 8)).base ((tkParse ((l.take n).drop 8)).base + (tkParse ((l.take n).drop 8)).len : Int) (tkParse ((l.take n).drop 8)).recs ≠ l.take n then 3 else 0) := by
    unfold Hid; rw [hS0.out, if_neg g1, if_neg g2]
  have HB8 : BytesAt w2 (some ⟨b, off + 8, none⟩) ((l.take n).drop 8) := (HBW.out.take n).drop 8
  have HBT : BytesAt w (some ⟨b, off, none⟩) (l.take n) := HB0.out.take n
  have HB8 := Lib.hid HB8
  have HBT := Lib.hid HBT
  clear hS0 g1
  generalize hBd : (l.take n).drop 8 = B at *
  have HBD := Lib.hid hBd
  clear hBd
  generalize hTd : l.take n = T at *
  have HTD := Lib.hid hTd
  clear hTd HBW HB0
  have hgsz : b < w2.heap.size := hbk
  have hrd : RdS (w2.alloc (.cells #[.slice (some ⟨b, off + 8, none⟩) (n - 8) (cap - 8), .bool false] 63)) w2.heap.size b (B, false) := by
    have hx := BoxAt.new w2 [.slice (some ⟨b, off + 8, none⟩) (n - 8) (cap - 8), .bool false] 63
    have hbx : Box _ w2.heap.size _ _ := Box.new w2 [.slice (some ⟨b, off + 8, none⟩) (n - 8) (cap - 8), .bool false] 63
    refine ⟨off + 8, cap - 8, by omega, by rw [hlb]; omega, by unfold maxLen; omega, ?_, hbx.cell (j := 1) rfl, hbx.free 0, hbx.free 1, ((Chg.refl Nil _).alloc _).bytesAt HB8.out (fun _ _ h => h)⟩
    rw [hlb]
    exact hbx.cell (j := 0) rfl
  have HRD := Lib.hid hrd
  have hchR : Chg Nil w (w2.alloc (.cells #[.slice (some ⟨b, off + 8, none⟩) (n - 8) (cap - 8), .bool false] 63)) := hch2.alloc _
  have hzR := hz.chg ((Chg.refl Nil w2).alloc (.cells #[.slice (some ⟨b, off + 8, none⟩) (n - 8) (cap - 8), .bool false] 63)) (fun h => h) (fun h => h)
  have hgw : w2.heap.size < (w2.alloc (.cells #[.slice (some ⟨b, off + 8, none⟩) (n - 8) (cap - 8), .bool false] 63)).heap.size := by simp
  clear hrd
  go_wp2_with fail
  clear hz hch2 HB8 hlb
  generalize (w2.alloc (.cells #[.slice (some ⟨b, off + 8, none⟩) (n - 8) (cap - 8), .bool false] 63)) = w3 at *
  generalize w2.heap.size = g at *
  refine (tkNum_st g b (B, false) w3 HRD.out).mono ?_
  rintro e w4 ⟨rfl, hc4, hr4⟩
  have HR4 := Lib.hid hr4
  clear hr4
  go_upto_region 11 with fail
  have e1 : numS (B, false) = ((numS (B, false)).1, (numS (B, false)).2) := rfl
  have hbase := numS_le (B, false)
  have hlen := numS_le (numS (B, false)).2
  have HPB : Hid ((tkParse B).base = (numS (B, false)).1) := rfl
  have HPL : Hid ((tkParse B).len = (numS (numS (B, false)).2).1) := rfl
  have HPR : Hid ((tkParse B).recs = (tkRecs (numS (B, false)).1 (numS (numS (numS (B, false)).2).2).1 (numS (numS (numS (B, false)).2).2).2 []).1) := rfl
  have HPS : Hid ((tkParse B).st = (tkRecs (numS (B, false)).1 (numS (numS (numS (B, false)).2).2).1 (numS (numS (numS (B, false)).2).2).2 []).2) := rfl
  clear e1
  generalize numS (B, false) = p0 at *
  obtain ⟨base, s1⟩ := p0
  simp only at hbase hlen HPB HPL HPR HPS HR4
  have hxb : Box (w4.alloc (.cells #[.int .i64 base, .int .i64 0, .slice none 0 0] 24)) w4.heap.size [.int .i64 base, .int .i64 0, .slice none 0 0] 24 := Box.new w4 [.int .i64 base, .int .i64 0, .slice none 0 0] 24
  have hr5 : RdS (w4.alloc (.cells #[.int .i64 base, .int .i64 0, .slice none 0 0] 24)) g b s1 := HR4.out.chg ((Chg.refl Nil _).alloc _) (fun h => h) (fun h => h)
  have hz5 := (hzR.chg hc4 (by omega) (by omega)).chg ((Chg.refl Nil w4).alloc (.cells #[.int .i64 base, .int .i64 0, .slice none 0 0] 24)) (fun h => h) (fun h => h)
  have hch5 : Chg Nil w (w4.alloc (.cells #[.int .i64 base, .int .i64 0, .slice none 0 0] 24)) := (hchR.trans hc4 (fun i hi => .inr (by omega))).alloc _
  have hx4 : g < w4.heap.size := by have := hc4.size; omega
  have HRD5 := Lib.hid hr5
  clear hr5 HR4 HRD hzR hchR hc4 hgw
  have hxs : w4.heap.size < (w4.alloc (.cells #[.int .i64 base, .int .i64 0, .slice none 0 0] 24)).heap.size := by simp
  generalize (w4.alloc (.cells #[.int .i64 base, .int .i64 0, .slice none 0 0] 24)) = w5 at *
  generalize w4.heap.size = x at *
  refine Ch.wp_region_last _ _ rfl (Chg (fun k => k = g)) [3] (fun vs w => match vs with | [] => RdS w g b s1 | _ => RdS w g b (numS s1).2) (by kernel_rfl) (fun _ => Chg.refl _ _) (fun _ _ _ h k => h.trans k (fun _ h => .inl h)) [[], [0], [], [2], [1, 3], []] rfl (by kernel_rfl) (by kernel_rfl) (by kernel_rfl) (Chg.refl _ _).drew ?_ ?_
  · exact HRD5.out.chg (Chg.refl Nil _).drew (fun h => h) (fun h => h)
  simp only [List.dropLast_cons_cons, List.dropLast_singleton]
  iterate 3 ((with_reducible apply Ch.Walk.eq); (case hd => rfl); (case hi => rfl); case h => (intro w2 hw2 N hN; (have hx := hxb.chg hw2 (by omega); have hx0 := hx.cell (j := 0) rfl; clear hx); simp only [Ch.depsOf, List.filterMap_nil, List.filterMap_cons, List.getElem?_toArray, List.getElem?_cons_zero, List.getElem?_cons_succ, Option.bind_some, List.nil_append, List.cons_append, Ch.Ob]; go_simp; (try go_bits); with_reducible exact hN _ (Chg.refl _ _) (fun _ h => h)))
  refine Ch.Walk.chainE 0 (c := .int .i64 ((numS s1).1 : Nat)) rfl rfl ?_ ?_
  · intro w6 hw6 vs hvs hF N hN
    obtain rfl := List.eq_nil_of_length_eq_zero hvs
    simp only [Ch.depsOf, List.filterMap_nil, List.filterMap_cons, List.getElem?_toArray, List.getElem?_cons_zero, List.getElem?_cons_succ, Option.bind_some, List.nil_append, List.cons_append, Ch.Ob, Ch.chained_get, Option.map_some, List.idxOf?, List.findIdx?, List.findIdx?.go, Nat.reduceBEq, List.getD_cons_zero, List.getD_cons_succ, Nat.reduceAdd, if_true, if_false, Bool.false_eq_true]
    go_simp
    refine (tkNum_st g b s1 w6 hF).mono ?_
    rintro e w7 ⟨rfl, hc, hr⟩
    exact ⟨_, rfl, hN _ hc hr⟩
  iterate 2 ((with_reducible apply Ch.Walk.eq); (case hd => rfl); (case hi => rfl); case h => (intro w2 hw2 N hN; simp only [Ch.depsOf, List.filterMap_nil, List.filterMap_cons, List.getElem?_toArray, List.getElem?_cons_zero, List.getElem?_cons_succ, Option.bind_some, List.nil_append, List.cons_append, Ch.Ob]; go_simp; (try go_bits); with_reducible exact hN _ (Chg.refl _ _) (fun _ h => h)))
  intro w6 hw6
  simp only [List.nil_append, List.cons_append, Ch.Fin, List.map_cons, List.map_nil, List.getD_cons_zero, List.getD_cons_succ]
  intro hF
  simp only [Ch.Then, Oper.wp]
  have hx6 := hxb.chg hw6 (by omega)
  have c6 := hx6.cell (j := 1) rfl
  have f6 := hx6.free 1
  go_simp
  have hx7 : Box (w6.setCell ⟨x, 1, none⟩ (.int .i64 ((base : Int) + (numS s1).1))) x [.int .i64 base, .int .i64 ((base : Int) + (numS s1).1), .slice none 0 0] 24 := hx6.set 1 _
  have hc7 : Chg (fun k => k = g ∨ k = x) w5 (w6.setCell ⟨x, 1, none⟩ (.int .i64 ((base : Int) + (numS s1).1))) := (hw6.weak (fun i hi => .inl (.inl hi))).setCell (.inl (.inr rfl)) _
  have hr7 : RdS (w6.setCell ⟨x, 1, none⟩ (.int .i64 ((base : Int) + (numS s1).1))) g b (numS s1).2 := RdS.chg (S := fun k => k = x) hF ((Chg.refl (fun k => k = x) _).setCell (.inl rfl) _) (by omega) (by omega)
  have hz7 := hz5.chg hc7 (by omega) (by omega)
  have hch7 := hch5.trans hc7 (fun i hi => .inr (by omega))
  have hx7s : x < (w6.setCell ⟨x, 1, none⟩ (.int .i64 ((base : Int) + (numS s1).1))).heap.size := by have := hc7.size; omega
  have HR7 := Lib.hid hr7
  clear hr7 hF hx6 c6 f6 hw6 hz5 hch5 hc7 hxb HRD5 hxs
  generalize (w6.setCell ⟨x, 1, none⟩ (.int .i64 ((base : Int) + (numS s1).1))) = w7 at *
  generalize numS s1 = p1 at *
  obtain ⟨len, s2⟩ := p1
  simp only at hlen HPL HPR HPS HR7 hx7
  go_wp2_with fail
  refine (tkNum_st g b s2 w7 HR7.out).mono ?_
  rintro e w8 ⟨rfl, hc8, hr8⟩
  have hz8 := hz7.chg hc8 (by omega) (by omega)
  have hx8 := hx7.chg hc8 (by omega)
  have hch8 := hch7.trans hc8 (fun i hi => .inr (by omega))
  have hx8s : x < w8.heap.size := by have := hc8.size; omega
  have hcnt := numS_le s2
  clear hz7 hx7 hch7 hc8 HR7 hx7s
  generalize numS s2 = p2 at *
  obtain ⟨m, s3⟩ := p2
  simp only at hcnt HPR HPS hr8
  have HR8 := Lib.hid hr8
  clear hr8
  go_wp2_with fail
  have hr8 := HR8.out
  clear HR8
  have HS3 : Hid (s3.1.length ≤ maxLen) := by obtain ⟨_, _, h⟩ := hr8; exact Nat.le_trans h.fits h.most
  go_loopw [9] (fun i wr => ∃ (k : Nat) (v : Value) (acc : List Rec) (s : St), k ≤ m ∧ i = .int .i64 ((m - k : Nat) : Int) ∧ acc.length = k ∧ tkRecs base m s3 [] = tkRecs base (m - k) s acc ∧ RdS wr g b s ∧
    Box wr x [.int .i64 base, .int .i64 ((base : Int) + len), v] 24 ∧ OwnR 51 wr v acc ∧ (∀ i, v.ownBlock = some i → x < i) ∧
    TwoZ w.heap.size wr ∧ Chg Nil w wr) (fun i _ => (intOf i).toNat)
  case atStart => exact ⟨0, _, [], s3, Nat.zero_le _, rfl, rfl, rfl, hr8, hx8, OwnR.nil _ _, by simp [Value.ownBlock], hz8, hch8⟩
  case round =>
    obtain ⟨k, v, acc, s, hk, rfl, hlen2, HD, hr, hx, hown, hvb, hz, hch⟩ := hrel
    clear hr8 hx8 hz8 hch8 hx8s
    obtain ⟨vx, vn, vc, rfl⟩ := ownsRow_form hown
    have hmk : ((m - k : Nat) : Int) = (m : Int) - k := by omega
    by_cases hgo : k < m ∧ s.2 = false
    · obtain ⟨hkm, hb0⟩ := hgo
      · skip
        have c1 := hr.choose_spec.choose_spec.c1
        rw [hb0] at c1
        have hpos : (0 : Int) < ((m - k : Nat) : Int) := by omega
        have HR := Lib.hid hr
        have HOW := Lib.hid hown
        have HDD := Lib.hid HD
        clear hr hown HD hmk
        go_upto_region 15 with fail
        have hxw : x < wr.heap.size := (Array.getElem?_eq_some_iff.1 hx).1
        have hn1 := numS_le s
        have hn2 := numS_le (numS s).2
        clear c1 hpos
        refine Ch.wp_region_last _ _ rfl (Chg (fun k => k = g)) [3, 6] (fun vs w => match vs with | [] => RdS w g b s | [_] => RdS w g b (numS s).2 | _ => RdS w g b (numS (numS s).2).2) (by kernel_rfl) (fun _ => Chg.refl _ _) (fun _ _ _ h k => h.trans k (fun _ h => .inl h)) [[], [0], [], [2], [1, 3], [], [5], [4, 6], []] rfl (by kernel_rfl) (by kernel_rfl) (by kernel_rfl) (Chg.refl _ _).drew ?_ ?_
        · exact HR.out.chg (Chg.refl Nil _).drew (fun h => h) (fun h => h)
        simp only [List.dropLast_cons_cons, List.dropLast_singleton]
        iterate 3 ((with_reducible apply Ch.Walk.eq); (case hd => rfl); (case hi => rfl); case h => (intro w2 hw2 N hN; (have hx := hx.chg hw2 (by omega); have hx0 := hx.cell (j := 0) rfl; clear hx); simp only [Ch.depsOf, List.filterMap_nil, List.filterMap_cons, List.getElem?_toArray, List.getElem?_cons_zero, List.getElem?_cons_succ, Option.bind_some, List.nil_append, List.cons_append, Ch.Ob]; go_simp; (try go_bits); with_reducible exact hN _ (Chg.refl _ _) (fun _ h => h)))
        refine Ch.Walk.chainE 0 (c := .int .i64 ((numS s).1 : Nat)) rfl rfl ?_ ?_
        · intro w6 hw6 vs hvs hF N hN
          obtain rfl := List.eq_nil_of_length_eq_zero hvs
          simp only [Ch.depsOf, List.filterMap_nil, List.filterMap_cons, List.getElem?_toArray, List.getElem?_cons_zero, List.getElem?_cons_succ, Option.bind_some, List.nil_append, List.cons_append, Ch.Ob, Ch.chained_get, Option.map_some, List.idxOf?, List.findIdx?, List.findIdx?.go, Nat.reduceBEq, List.getD_cons_zero, List.getD_cons_succ, Nat.reduceAdd, if_true, if_false, Bool.false_eq_true]
          go_simp
          refine (tkNum_st g b s w6 hF).mono ?_
          rintro e w7 ⟨rfl, hc, hr⟩
          exact ⟨_, rfl, hN _ hc hr⟩
        iterate 2 ((with_reducible apply Ch.Walk.eq); (case hd => rfl); (case hi => rfl); case h => (intro w2 hw2 N hN; simp only [Ch.depsOf, List.filterMap_nil, List.filterMap_cons, List.getElem?_toArray, List.getElem?_cons_zero, List.getElem?_cons_succ, Option.bind_some, List.nil_append, List.cons_append, Ch.Ob]; go_simp; (try go_bits); with_reducible exact hN _ (Chg.refl _ _) (fun _ h => h)))
        refine Ch.Walk.chainE 1 (c := .int .i64 ((numS (numS s).2).1 : Nat)) rfl rfl ?_ ?_
        · intro w6 hw6 vs hvs hF N hN
          obtain ⟨v1, rfl⟩ := List.length_eq_one_iff.1 hvs
          simp only [Ch.depsOf, List.filterMap_nil, List.filterMap_cons, List.getElem?_toArray, List.getElem?_cons_zero, List.getElem?_cons_succ, Option.bind_some, List.nil_append, List.cons_append, Ch.Ob, Ch.chained_get, Option.map_some, List.idxOf?, List.findIdx?, List.findIdx?.go, Nat.reduceBEq, List.getD_cons_zero, List.getD_cons_succ, Nat.reduceAdd, if_true, if_false, Bool.false_eq_true]
          go_simp
          refine (tkNum_st g b (numS s).2 w6 hF).mono ?_
          rintro e w7 ⟨rfl, hc, hr⟩
          exact ⟨_, rfl, hN _ hc hr⟩
        ((with_reducible apply Ch.Walk.eq); (case hd => rfl); (case hi => rfl); case h => (intro w2 hw2 N hN; simp only [Ch.depsOf, List.filterMap_nil, List.filterMap_cons, List.getElem?_toArray, List.getElem?_cons_zero, List.getElem?_cons_succ, Option.bind_some, List.nil_append, List.cons_append, Ch.Ob]; go_simp; (try go_bits); with_reducible exact hN _ (Chg.refl _ _) (fun _ h => h)))
        refine Ch.Walk.sat (fun v w => ∃ p, v = .pointer (some ⟨p, 0, none⟩) ∧ wr.heap.size ≤ p ∧ Box w p [.int .i64 0, .int .i64 0, .bool false, .string ⟨#[]⟩, .bool false, .string ⟨#[]⟩] 51) ?_ rfl rfl ?_ ?_
        · rintro v w6 w7 ⟨p, rfl, hp, hbx⟩ hc
          exact ⟨p, rfl, hp, hbx.chg hc (by omega)⟩
        · intro w6 hw6 N hN
          simp only [Ch.depsOf, List.filterMap_nil, List.filterMap_cons, List.getElem?_toArray, List.getElem?_cons_zero, List.getElem?_cons_succ, Option.bind_some, List.nil_append, List.cons_append, Ch.Ob, Ch.chained_get, Option.map_some, List.idxOf?, List.findIdx?, List.findIdx?.go, Nat.reduceBEq, List.getD_cons_zero, List.getD_cons_succ, Nat.reduceAdd, if_true, if_false, Bool.false_eq_true]
          go_simp
          refine hN _ _ ⟨w6.heap.size, rfl, hw6.size, Box.new w6 [.int .i64 0, .int .i64 0, .bool false, .string ⟨#[]⟩, .bool false, .string ⟨#[]⟩] 51⟩ ((Chg.refl _ _).alloc _) (fun vs hF => ?_)
          have hal := (Chg.refl Nil w6).alloc (.cells #[.int .i64 0, .int .i64 0, .bool false, .string ⟨#[]⟩, .bool false, .string ⟨#[]⟩] 51)
          match vs, hF with
          | [], hF => exact RdS.chg hF hal (fun h => h) (fun h => h)
          | [_], hF => exact RdS.chg hF hal (fun h => h) (fun h => h)
          | _ :: _ :: _, hF => exact RdS.chg hF hal (fun h => h) (fun h => h)
        intro w6 hw6
        simp only [List.nil_append, List.cons_append, Ch.Fin, List.map_cons, List.map_nil, List.getD_cons_zero, List.getD_cons_succ]
        rintro v9 ⟨p, rfl, hp, hbp⟩ hF
        simp only [Ch.Then, Oper.wp]
        have b0 := hbp.cell (j := 0) rfl
        have f0 := hbp.free 0
        have b1 := hbp.cell (j := 1) rfl
        have f1 := hbp.free 1
        have b2 := hbp.cell (j := 2) rfl
        have f2 := hbp.free 2
        have b3 := hbp.cell (j := 3) rfl
        have f3 := hbp.free 3
        have b4 := hbp.cell (j := 4) rfl
        have f4 := hbp.free 4
        have b5 := hbp.cell (j := 5) rfl
        have f5 := hbp.free 5
        go_simp
        have hb9 : Box ((((((w6.setCell ⟨p, 0, none⟩ (.int .i64 ((base : Int) + (numS s).1))).setCell ⟨p, 1, none⟩ (.int .i64 ((numS (numS s).2).1 : Nat))).setCell ⟨p, 2, none⟩ (.bool false)).setCell ⟨p, 3, none⟩ (.string ⟨#[]⟩)).setCell ⟨p, 4, none⟩ (.bool false)).setCell ⟨p, 5, none⟩ (.string ⟨#[]⟩))
            p [.int .i64 ((base : Int) + (numS s).1), .int .i64 ((numS (numS s).2).1 : Nat), .bool false, .string ⟨#[]⟩, .bool false, .string ⟨#[]⟩] 51 := (((((hbp.set 0 _).set 1 _).set 2 _).set 3 _).set 4 _).set 5 _
        have hcs : Chg (fun k => k = p) w6 ((((((w6.setCell ⟨p, 0, none⟩ (.int .i64 ((base : Int) + (numS s).1))).setCell ⟨p, 1, none⟩ (.int .i64 ((numS (numS s).2).1 : Nat))).setCell ⟨p, 2, none⟩ (.bool false)).setCell ⟨p, 3, none⟩ (.string ⟨#[]⟩)).setCell ⟨p, 4, none⟩ (.bool false)).setCell ⟨p, 5, none⟩ (.string ⟨#[]⟩)) :=
          ((((((Chg.refl (fun k => k = p) _).setCell (.inl rfl) _).setCell (.inl rfl) _).setCell (.inl rfl) _).setCell (.inl rfl) _).setCell (.inl rfl) _).setCell (.inl rfl) _
        clear b0 b1 b2 b3 b4 b5 f0 f1 f2 f3 f4 f5 hbp
        generalize ((((((w6.setCell ⟨p, 0, none⟩ (.int .i64 ((base : Int) + (numS s).1))).setCell ⟨p, 1, none⟩ (.int .i64 ((numS (numS s).2).1 : Nat))).setCell ⟨p, 2, none⟩ (.bool false)).setCell ⟨p, 3, none⟩ (.string ⟨#[]⟩)).setCell ⟨p, 4, none⟩ (.bool false)).setCell ⟨p, 5, none⟩ (.string ⟨#[]⟩)) = w9 at *
        have hF : RdS w6 g b (numS (numS s).2).2 := hF
        have hr9 := hF.chg hcs (by omega) (by omega)
        have hc9 : Chg (fun k => k = g) wr w9 := hw6.trans hcs (fun i hi => .inr (by omega))
        have HS1 : Hid (tkRec base s = (tkMk base (numS s).1 (numS (numS s).2).1 (numS (numS (numS s).2).2).1 (tkKey (numS (numS (numS s).2).2).1 (flagS (numS (numS (numS s).2).2).1 (numS (numS (numS s).2).2).2)).1 (tkVal (numS (numS (numS s).2).2).1 (tkKey (numS (numS (numS s).2).2).1 (flagS (numS (numS (numS s).2).2).1 (numS (numS (numS s).2).2).2)).2).1,
          (tkVal (numS (numS (numS s).2).2).1 (tkKey (numS (numS (numS s).2).2).1 (flagS (numS (numS (numS s).2).2).1 (numS (numS (numS s).2).2).2)).2).2)) := rfl
        clear hF hw6 hcs HR
        generalize (numS s).1 = r1 at *
        generalize (numS s).2 = q1 at *
        generalize (numS q1).1 = r2 at *
        generalize (numS q1).2 = q2 at *
        have HR9 := Lib.hid hr9
        clear hr9
        go_wp2_with fail
        refine (tkNum_st g b q2 w9 HR9.out).mono ?_
        rintro e w10 ⟨rfl, hc10, hr10⟩
        have hn3 := numS_le q2
        generalize (numS q2).1 = fl at *
        generalize (numS q2).2 = q3 at *
        have hb10 := hb9.chg hc10 (by omega)
        have hc10' := hc9.trans hc10 (fun i hi => .inl hi)
        clear HR9 hb9 hc9 hc10
        have HR10 := Lib.hid hr10
        clear hr10
        have b2 := hb10.cell (j := 2) rfl
        have f2 := hb10.free 2
        have b4 := hb10.cell (j := 4) rfl
        have f4 := hb10.free 4
        go_upto_region 18 with fail
        have hkB : ((fl : Int) % 2 == 1) = decide (fl % 2 = 1) := by rw [Bool.eq_iff_iff, beq_iff_eq, decide_eq_true_eq]; omega
        have hgB : ((fl : Int) / 2 == 1) = decide (fl / 2 = 1) := by rw [Bool.eq_iff_iff, beq_iff_eq, decide_eq_true_eq]; omega
        rw [hkB, hgB]
        have hb11 := (hb10.set 2 (.bool (decide (fl % 2 = 1)))).set 4 (.bool (decide (fl / 2 = 1)))
        have hc11 := (hc10'.setCell (p := ⟨p, 2, none⟩) (.inr hp) (.bool (decide (fl % 2 = 1)))).setCell (p := ⟨p, 4, none⟩) (.inr hp) (.bool (decide (fl / 2 = 1)))
        have hr11 := HR10.out.chg (((Chg.refl (fun k => k = p) w10).setCell (p := ⟨p, 2, none⟩) (.inl rfl) (.bool (decide (fl % 2 = 1)))).setCell (p := ⟨p, 4, none⟩) (.inl rfl) (.bool (decide (fl / 2 = 1)))) (by omega) (by omega)
        have HR11 := Lib.hid hr11
        have hmr : Hid (∀ k v, tkMk base r1 r2 fl k v = ⟨base + r1, r2, decide (fl % 2 = 1), ⟨k.toArray⟩, decide (fl / 2 = 1), ⟨v.toArray⟩⟩) := fun _ _ => rfl
        have hkt : Hid (∀ s, decide (fl % 2 = 1) = true → tkKey fl s = tkText 10000 s) := fun s h => by unfold tkKey; rw [if_pos (of_decide_eq_true h)]
        have hkf : Hid (∀ s, decide (fl % 2 = 1) = false → tkKey fl s = ([], s)) := fun s h => by unfold tkKey; rw [if_neg (of_decide_eq_false h)]
        have hvt : Hid (∀ s, decide (fl / 2 = 1) = true → tkVal fl s = ([], s)) := fun s h => by unfold tkVal; rw [if_pos (of_decide_eq_true h)]
        have hvf : Hid (∀ s, decide (fl / 2 = 1) = false → tkVal fl s = tkText 10000 s) := fun s h => by unfold tkVal; rw [if_neg (of_decide_eq_false h)]
        clear hb10 hc10' hr11 HR10 b2 f2 b4 f4 hkB hgB
        generalize (w10.setCell ⟨p, 2, none⟩ (.bool (decide (fl % 2 = 1)))).setCell ⟨p, 4, none⟩ (.bool (decide (fl / 2 = 1))) = w11 at *
        generalize decide (fl % 2 = 1) = kB at *
        generalize decide (fl / 2 = 1) = gB at *
        have d1 := HR11.out.choose_spec.choose_spec.c1
        have d2 := HR11.out.choose_spec.choose_spec.f1
        go_cut [11] (fun u11 wx => u11 = .int .i64 fl ∧ wx = w11.setCell ⟨g, 1, none⟩ (.bool (q3.2 || decide (3 < fl))))
        case first =>
          obtain ⟨q3l, q3b⟩ := q3
          simp only at d1 d2
          have HD3 : Hid (decide ((3 : Int) < (fl : Int)) = decide (3 < fl)) := by unfold Hid; congr 1; exact propext (by omega)
          cases q3b
          · go_wp2_with fail
            go_meet
            case rel => exact ⟨rfl, by rw [HD3.out]; rfl⟩
          · go_wp2_with fail
            go_meet
            case rel => exact ⟨rfl, rfl⟩
        case rest =>
          obtain ⟨rfl, rfl⟩ := hcut
          have hrs : RdS (w11.setCell ⟨g, 1, none⟩ (.bool (q3.2 || decide (3 < fl)))) g b (flagS fl q3) := by
            obtain ⟨off, cap, h⟩ := HR11.out
            exact ⟨off, cap - 0, h.move 0 off (Nat.zero_le _) (fun _ => rfl) (by rw [cell_set h.c0]; rfl) (by rw [cell_set h.c1]; rfl) (fun q => by rw [frozen_set]) ((Chg.refl (fun k => k = g) _).setCell (.inl rfl) _)⟩
          have hbs := hb11.chg ((Chg.refl (fun k => k = g) w11).setCell (p := ⟨g, 1, none⟩) (.inl rfl) (.bool (q3.2 || decide (3 < fl)))) (by omega)
          have hct := hc11.setCell (p := ⟨g, 1, none⟩) (.inl rfl) (.bool (q3.2 || decide (3 < fl)))
          clear hb11 hc11 HR11 d1 d2
          generalize w11.setCell ⟨g, 1, none⟩ (.bool (q3.2 || decide (3 < fl))) = w12 at *
          generalize flagS fl q3 = q4 at *
          have HRT := Lib.hid hrs
          clear hrs
          have b2 := hbs.cell (j := 2) rfl
          have hbt := Lib.hid hbs
          clear hbs
          go_upto_if 109 with fail
          go_cut [11] (fun u11 wx => u11 = .int .i64 fl ∧ RdS wx g b (tkKey fl q4).2 ∧ Box wx p [.int .i64 ((base : Int) + r1), .int .i64 r2, .bool kB, .string ⟨(tkKey fl q4).1.toArray⟩, .bool gB, .string ⟨#[]⟩] 51 ∧ Chg (fun k => k = g) wr wx)
          case first =>
            cases kB
            · have HK := Lib.hid (hkf.out q4 rfl)
              clear hkf hkt
              go_wp2_with fail
              go_meet
              case rel => rw [HK.out]; exact ⟨rfl, HRT.out, hbt.out, hct⟩
            · have HK := Lib.hid (hkt.out q4 rfl)
              clear hkf hkt
              go_wp2_with fail
              refine (tkText_st 10000 g b q4 w12 HRT.out).mono ?_
              rintro e w13 ⟨rfl, hc13, hr13⟩
              have hb13 := hbt.out.chg hc13 (by omega)
              have hcc := hct.trans hc13 (fun i hi => .inl hi)
              have c3 := hb13.cell (j := 3) rfl
              have f3 := hb13.free 3
              have HR13 := Lib.hid hr13
              clear hr13
              go_wp2_with fail
              go_meet
              case rel =>
                rw [HK.out]
                exact ⟨rfl, HR13.out.chg ((Chg.refl (fun k => k = p) _).setCell (.inl rfl) _) (by omega) (by omega), hb13.set 3 _, hcc.setCell (.inr hp) _⟩
          case rest =>
            obtain ⟨rfl, hr14, hb14, hc14⟩ := hcut
            have HR14 := Lib.hid hr14
            clear hr14 HRT hbt hct hkf hkt b2
            generalize (tkKey fl q4).1 = key at *
            generalize (tkKey fl q4).2 = q5 at *
            have b4 := hb14.cell (j := 4) rfl
            have hbt := Lib.hid hb14
            clear hb14
            have hw15 : ∃ w15, w15 = wc := ⟨_, rfl⟩
            obtain ⟨w15, hw15⟩ := hw15
            rw [← hw15] at hbt HR14 hc14 b4 ⊢
            clear hw15
            go_upto_if 115 with fail
            go_cut [11] (fun u11 wx => u11 = .int .i64 fl ∧ RdS wx g b (tkVal fl q5).2 ∧ Box wx p [.int .i64 ((base : Int) + r1), .int .i64 r2, .bool kB, .string ⟨key.toArray⟩, .bool gB, .string ⟨(tkVal fl q5).1.toArray⟩] 51 ∧ Chg (fun k => k = g) wr wx)
            case first =>
              cases gB
              · have HK := Lib.hid (hvf.out q5 rfl)
                clear hvf hvt
                go_wp2_with fail
                refine (tkText_st 10000 g b q5 w15 HR14.out).mono ?_
                rintro e w13 ⟨rfl, hc13, hr13⟩
                have hb13 := hbt.out.chg hc13 (by omega)
                have hcc := hc14.trans hc13 (fun i hi => .inl hi)
                have c5 := hb13.cell (j := 5) rfl
                have f5 := hb13.free 5
                have HR13 := Lib.hid hr13
                clear hr13
                go_wp2_with fail
                go_meet
                case rel =>
                  rw [HK.out]
                  exact ⟨rfl, HR13.out.chg ((Chg.refl (fun k => k = p) _).setCell (.inl rfl) _) (by omega) (by omega), hb13.set 5 _, hcc.setCell (.inr hp) _⟩
              · have HK := Lib.hid (hvt.out q5 rfl)
                clear hvf hvt
                go_wp2_with fail
                go_meet
                case rel => rw [HK.out]; exact ⟨rfl, HR14.out, hbt.out, hc14⟩
            case rest =>
              obtain ⟨rfl, hr16, hb16, hc16⟩ := hcut
              have HR16 := Lib.hid hr16
              clear hr16 HR14 hbt hc14 hvf hvt b4
              generalize (tkVal fl q5).1 = val at *
              generalize (tkVal fl q5).2 = q6 at *
              have hmr2 := hmr.out key val
              have hq6 : tkRec base s = (⟨base + r1, r2, kB, ⟨key.toArray⟩, gB, ⟨val.toArray⟩⟩, q6) := by rw [HS1.out, hmr2]
              have HD6 : Hid (tkRecs base m s3 [] = tkRecs base (m - (k + 1)) q6 (acc ++ [⟨base + r1, r2, kB, ⟨key.toArray⟩, gB, ⟨val.toArray⟩⟩])) := by
                unfold Hid
                rw [HDD.out, show m - k = m - (k + 1) + 1 by omega, tkRecs_on hb0, hq6]
              clear hq6 hmr2 hmr
              have g0 := hb16.cell (j := 0) rfl
              have g1 := hb16.cell (j := 1) rfl
              have g2 := hb16.cell (j := 2) rfl
              have g3 := hb16.cell (j := 3) rfl
              have g4 := hb16.cell (j := 4) rfl
              have g5 := hb16.cell (j := 5) rfl
              have hown := ownsRow_chg HOW.out hc16 (fun i hi e => by have := hvb i hi; omega)
              have hx16 := hx.chg hc16 (by omega)
              have hz16 := hz.chg hc16 (by omega) (by omega)
              have hch16 := hch.trans hc16 (fun i hi => .inr (by omega))
              have hx2 := hx16.cell (j := 2) rfl
              have hsz16 : x < wc.heap.size := (Array.getElem?_eq_some_iff.1 hx16).1
              have h63 : acc.length + 1 ≤ maxLen := by unfold maxLen; omega
              have hby : (acc.length + 1) * 64 ≤ 140737488355328 := by omega
              have hb1 := Box.new wc (Rec.cells ⟨base + r1, r2, kB, ⟨key.toArray⟩, gB, ⟨val.toArray⟩⟩) 51
              have HB1 := Lib.hid hb1
              have HH63 := Lib.hid h63
              have HBY := Lib.hid hby
              have HX := Lib.hid hx16
              have HOW16 := Lib.hid hown
              clear hb1 h63 hby hx16 hown hx
              have HL2 := Lib.hid hlen2
              clear hlen2
              go_wp2_with (at_builtin; go_must (refine wpList_append_grew rfl (.tmp 120) (.tmp 122) 22 22 rfl recsT _ Tryd.underlying22 (by intro _; simp) _ _ _ rfl (HOW16.out.alloc _) _ 1 (Rec.cells ⟨base + r1, r2, kB, ⟨key.toArray⟩, gB, ⟨val.toArray⟩⟩) rfl (Source.box HB1.out rfl (Rec.cells_one _)) HH63.out HBY.out ?_); intro v2 w2 hown2 hg2 _; obtain ⟨x2, n2, c2, rfl⟩ := ownsRow_form hown2; have hxw : Box w2 x _ _ := (HX.out.chg ((Chg.refl Nil wc).alloc _) (fun h => h)).chg hg2.chg (fun h => by have := hvb _ h; omega); have hx2' := hxw.cell (j := 2) rfl; have hxf := hxw.free 2; have HXW := Lib.hid hxw; clear hxw hx2)
              go_wp2
              go_roundw
              case rel =>
                have hsz2 := hg2.chg.size
                simp at hsz2
                have hchA := (Chg.refl Nil wc).alloc (.cells (Rec.cells ⟨base + r1, r2, kB, ⟨key.toArray⟩, gB, ⟨val.toArray⟩⟩).toArray 51)
                have hxlt := hvb
                have hv2 : ∀ i, (Value.slice x2 n2 c2).ownBlock = some i → x < i := by
                  intro i hi
                  rcases hg2.own i hi with h | h
                  · exact hvb i h
                  · simp at h; omega
                have hset : Chg (fun i => i = x) w2 (w2.setCell ⟨x, 2, none⟩ (.slice x2 n2 c2)) := (Chg.refl (fun i => i = x) _).setCell (.inl rfl) _
                have hb2 : b < x := by omega
                have hup : Chg (Own (.slice vx vn vc)) wc w2 := (hchA.weak (fun _ h => h.elim)).trans hg2.chg (fun i hi => .inl hi)
                refine ⟨k + 1, .slice x2 n2 c2, acc ++ [⟨base + r1, r2, kB, ⟨key.toArray⟩, gB, ⟨val.toArray⟩⟩], q6, by omega, ?_, by rw [List.length_append, HL2.out]; rfl, HD6.out, ?_, HXW.out.set 2 _, ?_, hv2, ?_, ?_⟩
                · rw [show ((m - (k + 1) : Nat) : Int) = ((m - k : Nat) : Int) - 1 by omega]
                · exact (((HR16.out.chg hchA (fun h => h) (fun h => h)).chg hg2.chg (fun h => by have := hvb _ h; omega) (fun h => by have := hvb _ h; omega)).chg hset (by omega) (by omega))
                · have h := ownsRow_chg hown2 hset (fun i hi e => by have := hv2 i hi; omega)
                  unfold OwnR
                  rw [List.length_append, List.flatMap_append]
                  simpa using h
                · exact ((hz16.chg hup (fun h => by have := hvb _ h; omega) (fun h => by have := hvb _ h; omega)).chg hset (by omega) (by omega))
                · exact (hch16.trans hup (fun i hi => .inr (by have := hvb _ hi; omega))).trans hset (fun i hi => .inr (by omega))
              case measure => simp [intOf]; omega
    · have hfin : tkRecs base m s3 [] = (acc, s) := by
        rw [HD]
        by_cases hb : s.2 = true
        · exact tkRecs_bad hb
        · have : m - k = 0 := by
            by_cases hk2 : k < m
            · exact absurd ⟨hk2, by simpa using hb⟩ hgo
            · omega
          rw [this]; rfl
      have hacc : ∀ r ∈ acc, r.Ok := by
        have := tkRecs_ok (n := m) (s := s3) (acc := []) (base := (base : Int)) (by omega) (by omega) HS3.out (by simp)
        rw [hfin] at this
        exact this
      have HACC := Lib.hid hacc
      have HX2 : Hid (refDecErr l = if s.2 = true ∨ encErr base ((base : Int) + len) acc ≠ 0 ∨ encAll base ((base : Int) + len) acc ≠ T then 3 else 0) := by
        unfold Hid
        rw [HX.out, HPS.out, HPR.out, HPB.out, HPL.out, hfin]
      have HR2 : Hid ((tkParse B).recs = acc) := by unfold Hid; rw [HPR.out, hfin]
      have hle2 : acc.length ≤ maxLen := by unfold maxLen; omega
      have HLE := Lib.hid hle2
      obtain ⟨va, vcap, hv, hrecs, hvle⟩ := hown.recs
      simp only [Value.slice.injEq] at hv
      obtain ⟨rfl, rfl, rfl⟩ := hv
      have HRC := Lib.hid hrecs
      have HOW := Lib.hid hown
      obtain ⟨roff, rcap, hrd⟩ := hr
      have c1 := hrd.c1
      have x0 := hx.cell (j := 0) rfl
      have x1 := hx.cell (j := 1) rfl
      have x2 := hx.cell (j := 2) rfl
      have hxb : x < wr.heap.size := (Array.getElem?_eq_some_iff.1 hx).1
      have HEN := Lib.hid (refEncode_any (base : Int) ((base : Int) + len) vx acc vc wr (by omega) (by omega) HLE.out HACC.out HRC.out)
      clear hfin HD hmk hacc hle2 hlen2 hown hrecs hrd
      have HGO : Hid (¬ (k < m ∧ s.2 = false)) := hgo
      clear hgo
      by_cases hkm : k < m
      · have hbad : s.2 = true := by cases h : s.2 with | true => rfl | false => exact absurd ⟨hkm, h⟩ HGO.out
        rw [hbad] at c1
        have hpos : (0 : Int) < ((m - k : Nat) : Int) := by omega
        have HX3 : Hid (refDecErr l = 3) := by unfold Hid; rw [HX2.out, if_pos (.inl hbad)]
        clear hbad
        go_wp2_with fail
        refine HEN.out.mono ?_
        rintro e w9 ⟨hc9, ⟨hbd, rfl⟩ | ⟨hgd, u, rfl, hou, _⟩⟩
        · have hch9 := hch.trans hc9 (fun _ h => h.elim)
          have hz9 := hz.chg hc9 (fun h => h) (fun h => h)
          have c1 := hc9.cell c1 (fun h => h)
          clear hbd
          generalize encErr base ((base : Int) + len) acc = ce at *
          go_upto_region 25 with fail
          refine Ch.wp_region_chain _ (Chg (Nil)) [] (fun _ _ => True) (by kernel_rfl) (fun _ => Chg.refl _ _) (fun _ _ _ h k => h.trans k (fun _ h => .inl h)) [[], [0], [1], [2], [3], [4], [4, 5], [4, 6], [7], [8], [8, 9], [8], [8], [8, 11, 12], [8, 13], [8, 10, 14], [8, 15]] rfl (by kernel_rfl) (by kernel_rfl) (Chg.refl _ _).drew ?_ ?_
          · trivial
          iterate 3 ((with_reducible apply Ch.Walk.eq); (case hd => rfl); (case hi => rfl); case h => (intro w2 hw2 N hN; simp only [Ch.depsOf, List.filterMap_nil, List.filterMap_cons, List.getElem?_toArray, List.getElem?_cons_zero, List.getElem?_cons_succ, Option.bind_some, List.nil_append, List.cons_append, Ch.Ob]; go_simp; (try go_bits); with_reducible exact hN _ (Chg.refl _ _) (fun _ h => h)))
          ((with_reducible apply Ch.Walk.eq); (case hd => rfl); (case hi => rfl); case h => (intro w2 hw2 N hN; (have hc := hw2.cell c1 (fun h => h)); simp only [Ch.depsOf, List.filterMap_nil, List.filterMap_cons, List.getElem?_toArray, List.getElem?_cons_zero, List.getElem?_cons_succ, Option.bind_some, List.nil_append, List.cons_append, Ch.Ob]; go_simp; (try go_bits); with_reducible exact hN _ (Chg.refl _ _) (fun _ h => h)))
          iterate 13 ((with_reducible apply Ch.Walk.eq); (case hd => rfl); (case hi => rfl); case h => (intro w2 hw2 N hN; simp only [Ch.depsOf, List.filterMap_nil, List.filterMap_cons, List.getElem?_toArray, List.getElem?_cons_zero, List.getElem?_cons_succ, Option.bind_some, List.nil_append, List.cons_append, Ch.Ob]; go_simp; (try go_bits); with_reducible exact hN _ (Chg.refl _ _) (fun _ h => h)))
          intro w4 hw4
          simp only [List.nil_append, List.cons_append, Ch.Fin, List.map_cons, List.map_nil, List.getD_cons_zero, List.getD_cons_succ]
          go_simp
          have hz4 := hz9.chg hw4 (fun h => h) (fun h => h)
          have hch4 := hch9.trans hw4 (fun _ h => .inl h)
          obtain ⟨hz1, hz2⟩ := hz4
          have n0 := hz2.cell (j := 0) rfl
          have n1 := hz2.cell (j := 1) rfl
          have n2 := hz2.cell (j := 2) rfl
          have z0 := hz1.cell (j := 0) rfl
          have z1 := hz1.cell (j := 1) rfl
          have z2 := hz1.cell (j := 2) rfl
          have y0 := hz1.free 0
          have y1 := hz1.free 1
          have y2 := hz1.free 2
          go_wp2_with fail
          refine bodyPost_ret (v := .tuple #[.agg #[.int .i64 0, .int .i64 0, .slice none 0 0], .int .i64 0, .int .i64 3]) (by simp [results, Tryd.results12, go_sem, z0, z1, z2]) rfl (HP _ _ ⟨?_, .inl ⟨by rw [HX3.out]; simp, by rw [HX3.out]; rfl⟩⟩)
          exact ((hch4.setCell (.inr (Nat.le_refl _)) _).setCell (.inr (Nat.le_refl _)) _).setCell (.inr (Nat.le_refl _)) _
        · have hch9 := hch.trans hc9 (fun _ h => h.elim)
          have hz9 := hz.chg hc9 (fun h => h) (fun h => h)
          have c1 := hc9.cell c1 (fun h => h)
          obtain ⟨ua, uc, rfl, huby, _⟩ := hou.val
          generalize encAll base ((base : Int) + len) acc = L at *
          clear hou hgd
          go_upto_region 25 with fail
          refine Ch.wp_region_chain _ (Chg (Nil)) [] (fun _ _ => True) (by kernel_rfl) (fun _ => Chg.refl _ _) (fun _ _ _ h k => h.trans k (fun _ h => .inl h)) [[], [0], [1], [2], [3], [4], [4, 5], [4, 6], [7], [8], [8, 9], [8], [8], [8, 11, 12], [8, 13], [8, 10, 14], [8, 15]] rfl (by kernel_rfl) (by kernel_rfl) (Chg.refl _ _).drew ?_ ?_
          · trivial
          iterate 3 ((with_reducible apply Ch.Walk.eq); (case hd => rfl); (case hi => rfl); case h => (intro w2 hw2 N hN; simp only [Ch.depsOf, List.filterMap_nil, List.filterMap_cons, List.getElem?_toArray, List.getElem?_cons_zero, List.getElem?_cons_succ, Option.bind_some, List.nil_append, List.cons_append, Ch.Ob]; go_simp; (try go_bits); with_reducible exact hN _ (Chg.refl _ _) (fun _ h => h)))
          ((with_reducible apply Ch.Walk.eq); (case hd => rfl); (case hi => rfl); case h => (intro w2 hw2 N hN; (have hc := hw2.cell c1 (fun h => h)); simp only [Ch.depsOf, List.filterMap_nil, List.filterMap_cons, List.getElem?_toArray, List.getElem?_cons_zero, List.getElem?_cons_succ, Option.bind_some, List.nil_append, List.cons_append, Ch.Ob]; go_simp; (try go_bits); with_reducible exact hN _ (Chg.refl _ _) (fun _ h => h)))
          iterate 13 ((with_reducible apply Ch.Walk.eq); (case hd => rfl); (case hi => rfl); case h => (intro w2 hw2 N hN; simp only [Ch.depsOf, List.filterMap_nil, List.filterMap_cons, List.getElem?_toArray, List.getElem?_cons_zero, List.getElem?_cons_succ, Option.bind_some, List.nil_append, List.cons_append, Ch.Ob]; go_simp; (try go_bits); with_reducible exact hN _ (Chg.refl _ _) (fun _ h => h)))
          intro w4 hw4
          simp only [List.nil_append, List.cons_append, Ch.Fin, List.map_cons, List.map_nil, List.getD_cons_zero, List.getD_cons_succ]
          go_simp
          have hz4 := hz9.chg hw4 (fun h => h) (fun h => h)
          have hch4 := hch9.trans hw4 (fun _ h => .inl h)
          obtain ⟨hz1, hz2⟩ := hz4
          have n0 := hz2.cell (j := 0) rfl
          have n1 := hz2.cell (j := 1) rfl
          have n2 := hz2.cell (j := 2) rfl
          have z0 := hz1.cell (j := 0) rfl
          have z1 := hz1.cell (j := 1) rfl
          have z2 := hz1.cell (j := 2) rfl
          have y0 := hz1.free 0
          have y1 := hz1.free 1
          have y2 := hz1.free 2
          go_wp2_with fail
          refine bodyPost_ret (v := .tuple #[.agg #[.int .i64 0, .int .i64 0, .slice none 0 0], .int .i64 0, .int .i64 3]) (by simp [results, Tryd.results12, go_sem, z0, z1, z2]) rfl (HP _ _ ⟨?_, .inl ⟨by rw [HX3.out]; simp, by rw [HX3.out]; rfl⟩⟩)
          exact ((hch4.setCell (.inr (Nat.le_refl _)) _).setCell (.inr (Nat.le_refl _)) _).setCell (.inr (Nat.le_refl _)) _

      · have hpos : ¬ (0 : Int) < ((m - k : Nat) : Int) := by omega
        by_cases hbad : s.2 = true
        · rw [hbad] at c1
          have HX3 : Hid (refDecErr l = 3) := by unfold Hid; rw [HX2.out, if_pos (.inl hbad)]
          clear hbad
          go_wp2_with fail
          refine HEN.out.mono ?_
          rintro e w9 ⟨hc9, ⟨hbd, rfl⟩ | ⟨hgd, u, rfl, hou, _⟩⟩
          · have hch9 := hch.trans hc9 (fun _ h => h.elim)
            have hz9 := hz.chg hc9 (fun h => h) (fun h => h)
            have c1 := hc9.cell c1 (fun h => h)
            clear hbd
            generalize encErr base ((base : Int) + len) acc = ce at *
            go_upto_region 25 with fail
            refine Ch.wp_region_chain _ (Chg (Nil)) [] (fun _ _ => True) (by kernel_rfl) (fun _ => Chg.refl _ _) (fun _ _ _ h k => h.trans k (fun _ h => .inl h)) [[], [0], [1], [2], [3], [4], [4, 5], [4, 6], [7], [8], [8, 9], [8], [8], [8, 11, 12], [8, 13], [8, 10, 14], [8, 15]] rfl (by kernel_rfl) (by kernel_rfl) (Chg.refl _ _).drew ?_ ?_
            · trivial
            iterate 3 ((with_reducible apply Ch.Walk.eq); (case hd => rfl); (case hi => rfl); case h => (intro w2 hw2 N hN; simp only [Ch.depsOf, List.filterMap_nil, List.filterMap_cons, List.getElem?_toArray, List.getElem?_cons_zero, List.getElem?_cons_succ, Option.bind_some, List.nil_append, List.cons_append, Ch.Ob]; go_simp; (try go_bits); with_reducible exact hN _ (Chg.refl _ _) (fun _ h => h)))
            ((with_reducible apply Ch.Walk.eq); (case hd => rfl); (case hi => rfl); case h => (intro w2 hw2 N hN; (have hc := hw2.cell c1 (fun h => h)); simp only [Ch.depsOf, List.filterMap_nil, List.filterMap_cons, List.getElem?_toArray, List.getElem?_cons_zero, List.getElem?_cons_succ, Option.bind_some, List.nil_append, List.cons_append, Ch.Ob]; go_simp; (try go_bits); with_reducible exact hN _ (Chg.refl _ _) (fun _ h => h)))
            iterate 13 ((with_reducible apply Ch.Walk.eq); (case hd => rfl); (case hi => rfl); case h => (intro w2 hw2 N hN; simp only [Ch.depsOf, List.filterMap_nil, List.filterMap_cons, List.getElem?_toArray, List.getElem?_cons_zero, List.getElem?_cons_succ, Option.bind_some, List.nil_append, List.cons_append, Ch.Ob]; go_simp; (try go_bits); with_reducible exact hN _ (Chg.refl _ _) (fun _ h => h)))
            intro w4 hw4
            simp only [List.nil_append, List.cons_append, Ch.Fin, List.map_cons, List.map_nil, List.getD_cons_zero, List.getD_cons_succ]
            go_simp
            have hz4 := hz9.chg hw4 (fun h => h) (fun h => h)
            have hch4 := hch9.trans hw4 (fun _ h => .inl h)
            obtain ⟨hz1, hz2⟩ := hz4
            have n0 := hz2.cell (j := 0) rfl
            have n1 := hz2.cell (j := 1) rfl
            have n2 := hz2.cell (j := 2) rfl
            have z0 := hz1.cell (j := 0) rfl
            have z1 := hz1.cell (j := 1) rfl
            have z2 := hz1.cell (j := 2) rfl
            have y0 := hz1.free 0
            have y1 := hz1.free 1
            have y2 := hz1.free 2
            go_wp2_with fail
            refine bodyPost_ret (v := .tuple #[.agg #[.int .i64 0, .int .i64 0, .slice none 0 0], .int .i64 0, .int .i64 3]) (by simp [results, Tryd.results12, go_sem, z0, z1, z2]) rfl (HP _ _ ⟨?_, .inl ⟨by rw [HX3.out]; simp, by rw [HX3.out]; rfl⟩⟩)
            exact ((hch4.setCell (.inr (Nat.le_refl _)) _).setCell (.inr (Nat.le_refl _)) _).setCell (.inr (Nat.le_refl _)) _
          · have hch9 := hch.trans hc9 (fun _ h => h.elim)
            have hz9 := hz.chg hc9 (fun h => h) (fun h => h)
            have c1 := hc9.cell c1 (fun h => h)
            obtain ⟨ua, uc, rfl, huby, _⟩ := hou.val
            generalize encAll base ((base : Int) + len) acc = L at *
            clear hou hgd
            go_upto_region 25 with fail
            refine Ch.wp_region_chain _ (Chg (Nil)) [] (fun _ _ => True) (by kernel_rfl) (fun _ => Chg.refl _ _) (fun _ _ _ h k => h.trans k (fun _ h => .inl h)) [[], [0], [1], [2], [3], [4], [4, 5], [4, 6], [7], [8], [8, 9], [8], [8], [8, 11, 12], [8, 13], [8, 10, 14], [8, 15]] rfl (by kernel_rfl) (by kernel_rfl) (Chg.refl _ _).drew ?_ ?_
            · trivial
            iterate 3 ((with_reducible apply Ch.Walk.eq); (case hd => rfl); (case hi => rfl); case h => (intro w2 hw2 N hN; simp only [Ch.depsOf, List.filterMap_nil, List.filterMap_cons, List.getElem?_toArray, List.getElem?_cons_zero, List.getElem?_cons_succ, Option.bind_some, List.nil_append, List.cons_append, Ch.Ob]; go_simp; (try go_bits); with_reducible exact hN _ (Chg.refl _ _) (fun _ h => h)))
            ((with_reducible apply Ch.Walk.eq); (case hd => rfl); (case hi => rfl); case h => (intro w2 hw2 N hN; (have hc := hw2.cell c1 (fun h => h)); simp only [Ch.depsOf, List.filterMap_nil, List.filterMap_cons, List.getElem?_toArray, List.getElem?_cons_zero, List.getElem?_cons_succ, Option.bind_some, List.nil_append, List.cons_append, Ch.Ob]; go_simp; (try go_bits); with_reducible exact hN _ (Chg.refl _ _) (fun _ h => h)))
            iterate 13 ((with_reducible apply Ch.Walk.eq); (case hd => rfl); (case hi => rfl); case h => (intro w2 hw2 N hN; simp only [Ch.depsOf, List.filterMap_nil, List.filterMap_cons, List.getElem?_toArray, List.getElem?_cons_zero, List.getElem?_cons_succ, Option.bind_some, List.nil_append, List.cons_append, Ch.Ob]; go_simp; (try go_bits); with_reducible exact hN _ (Chg.refl _ _) (fun _ h => h)))
            intro w4 hw4
            simp only [List.nil_append, List.cons_append, Ch.Fin, List.map_cons, List.map_nil, List.getD_cons_zero, List.getD_cons_succ]
            go_simp
            have hz4 := hz9.chg hw4 (fun h => h) (fun h => h)
            have hch4 := hch9.trans hw4 (fun _ h => .inl h)
            obtain ⟨hz1, hz2⟩ := hz4
            have n0 := hz2.cell (j := 0) rfl
            have n1 := hz2.cell (j := 1) rfl
            have n2 := hz2.cell (j := 2) rfl
            have z0 := hz1.cell (j := 0) rfl
            have z1 := hz1.cell (j := 1) rfl
            have z2 := hz1.cell (j := 2) rfl
            have y0 := hz1.free 0
            have y1 := hz1.free 1
            have y2 := hz1.free 2
            go_wp2_with fail
            refine bodyPost_ret (v := .tuple #[.agg #[.int .i64 0, .int .i64 0, .slice none 0 0], .int .i64 0, .int .i64 3]) (by simp [results, Tryd.results12, go_sem, z0, z1, z2]) rfl (HP _ _ ⟨?_, .inl ⟨by rw [HX3.out]; simp, by rw [HX3.out]; rfl⟩⟩)
            exact ((hch4.setCell (.inr (Nat.le_refl _)) _).setCell (.inr (Nat.le_refl _)) _).setCell (.inr (Nat.le_refl _)) _

        · have hb0 : s.2 = false := by simpa using hbad
          rw [hb0] at c1 HX2
          clear hb0 hbad
          go_wp2_with fail
          refine HEN.out.mono ?_
          rintro e w9 ⟨hc9, ⟨hbd, rfl⟩ | ⟨hgd, u, rfl, hou, _⟩⟩
          · have hch9 := hch.trans hc9 (fun _ h => h.elim)
            have hz9 := hz.chg hc9 (fun h => h) (fun h => h)
            have c1 := hc9.cell c1 (fun h => h)
            have HX3 : Hid (refDecErr l = 3) := by unfold Hid; rw [HX2.out, if_pos (.inr (.inl hbd))]
            clear HX2 HEN
            generalize encErr base ((base : Int) + len) acc = ce at *
            have hne : ¬ ((ce : Int) = 0) := by omega
            have hne2 : ¬ ce = 0 := hbd
            clear hbd
            go_upto_region 25 with fail
            refine Ch.wp_region_chain _ (Chg (Nil)) [] (fun _ _ => True) (by kernel_rfl) (fun _ => Chg.refl _ _) (fun _ _ _ h k => h.trans k (fun _ h => .inl h)) [[], [0], [1], [2], [3], [4], [4, 5], [4, 6], [7], [8], [8, 9], [8], [8], [8, 11, 12], [8, 13], [8, 10, 14], [8, 15]] rfl (by kernel_rfl) (by kernel_rfl) (Chg.refl _ _).drew ?_ ?_
            · trivial
            iterate 3 ((with_reducible apply Ch.Walk.eq); (case hd => rfl); (case hi => rfl); case h => (intro w2 hw2 N hN; simp only [Ch.depsOf, List.filterMap_nil, List.filterMap_cons, List.getElem?_toArray, List.getElem?_cons_zero, List.getElem?_cons_succ, Option.bind_some, List.nil_append, List.cons_append, Ch.Ob]; go_simp; (try go_bits); with_reducible exact hN _ (Chg.refl _ _) (fun _ h => h)))
            ((with_reducible apply Ch.Walk.eq); (case hd => rfl); (case hi => rfl); case h => (intro w2 hw2 N hN; (have hc := hw2.cell c1 (fun h => h)); simp only [Ch.depsOf, List.filterMap_nil, List.filterMap_cons, List.getElem?_toArray, List.getElem?_cons_zero, List.getElem?_cons_succ, Option.bind_some, List.nil_append, List.cons_append, Ch.Ob]; go_simp; (try go_bits); with_reducible exact hN _ (Chg.refl _ _) (fun _ h => h)))
            iterate 13 ((with_reducible apply Ch.Walk.eq); (case hd => rfl); (case hi => rfl); case h => (intro w2 hw2 N hN; simp only [Ch.depsOf, List.filterMap_nil, List.filterMap_cons, List.getElem?_toArray, List.getElem?_cons_zero, List.getElem?_cons_succ, Option.bind_some, List.nil_append, List.cons_append, Ch.Ob]; go_simp; (try go_bits); with_reducible exact hN _ (Chg.refl _ _) (fun _ h => h)))
            intro w4 hw4
            simp only [List.nil_append, List.cons_append, Ch.Fin, List.map_cons, List.map_nil, List.getD_cons_zero, List.getD_cons_succ]
            go_simp
            have hz4 := hz9.chg hw4 (fun h => h) (fun h => h)
            have hch4 := hch9.trans hw4 (fun _ h => .inl h)
            obtain ⟨hz1, hz2⟩ := hz4
            have n0 := hz2.cell (j := 0) rfl
            have n1 := hz2.cell (j := 1) rfl
            have n2 := hz2.cell (j := 2) rfl
            have z0 := hz1.cell (j := 0) rfl
            have z1 := hz1.cell (j := 1) rfl
            have z2 := hz1.cell (j := 2) rfl
            have y0 := hz1.free 0
            have y1 := hz1.free 1
            have y2 := hz1.free 2
            go_wp2_with fail
            refine bodyPost_ret (v := .tuple #[.agg #[.int .i64 0, .int .i64 0, .slice none 0 0], .int .i64 0, .int .i64 3]) (by simp [results, Tryd.results12, go_sem, z0, z1, z2]) rfl (HP _ _ ⟨?_, .inl ⟨by rw [HX3.out]; simp, by rw [HX3.out]; rfl⟩⟩)
            exact ((hch4.setCell (.inr (Nat.le_refl _)) _).setCell (.inr (Nat.le_refl _)) _).setCell (.inr (Nat.le_refl _)) _
          · have hch9 := hch.trans hc9 (fun _ h => h.elim)
            have hz9 := hz.chg hc9 (fun h => h) (fun h => h)
            have c1 := hc9.cell c1 (fun h => h)
            obtain ⟨ua, uc, rfl, huby, _⟩ := hou.val
            have HUB := Lib.hid huby
            have hbt9 := hch9.bytesAt HBT.out (fun _ _ h => h)
            have HBT9 := Lib.hid hbt9
            have hx9 := hx.chg hc9 (fun h => h)
            have hown9 := ownsRow_chg HOW.out hc9 (fun _ _ h => h)
            have HO9 := Lib.hid hown9
            have HX4 : Hid (refDecErr l = if encAll base ((base : Int) + len) acc ≠ T then 3 else 0) := by
              unfold Hid
              rw [HX2.out]
              by_cases hq : encAll base ((base : Int) + len) acc ≠ T
              · rw [if_pos hq, if_pos (.inr (.inr hq))]
              · rw [if_neg hq, if_neg]
                rintro (h | h | h)
                · cases h
                · exact h hgd
                · exact hq h
            clear HX2 HEN hou hgd huby hbt9 hown9
            generalize encAll base ((base : Int) + len) acc = L at *
            by_cases hLT : L = T
            · subst hLT
              have HX0 : Hid (refDecErr l = 0) := by unfold Hid; rw [HX4.out, if_neg (by simp)]
              clear HX4
              go_upto_region 25 with fail
              refine Ch.wp_region_chain _ (Chg (Nil)) [] (fun _ _ => True) (by kernel_rfl) (fun _ => Chg.refl _ _) (fun _ _ _ h k => h.trans k (fun _ h => .inl h)) [[], [0], [1], [2], [3], [4], [4, 5], [4, 6], [7], [8], [8, 9], [8], [8], [8, 11, 12], [8, 13], [8, 10, 14], [8, 15]] rfl (by kernel_rfl) (by kernel_rfl) (Chg.refl _ _).drew ?_ ?_
              · trivial
              iterate 3 ((with_reducible apply Ch.Walk.eq); (case hd => rfl); (case hi => rfl); case h => (intro w2 hw2 N hN; simp only [Ch.depsOf, List.filterMap_nil, List.filterMap_cons, List.getElem?_toArray, List.getElem?_cons_zero, List.getElem?_cons_succ, Option.bind_some, List.nil_append, List.cons_append, Ch.Ob]; go_simp; (try go_bits); with_reducible exact hN _ (Chg.refl _ _) (fun _ h => h)))
              ((with_reducible apply Ch.Walk.eq); (case hd => rfl); (case hi => rfl); case h => (intro w2 hw2 N hN; (have hc := hw2.cell c1 (fun h => h)); simp only [Ch.depsOf, List.filterMap_nil, List.filterMap_cons, List.getElem?_toArray, List.getElem?_cons_zero, List.getElem?_cons_succ, Option.bind_some, List.nil_append, List.cons_append, Ch.Ob]; go_simp; (try go_bits); with_reducible exact hN _ (Chg.refl _ _) (fun _ h => h)))
              iterate 6 ((with_reducible apply Ch.Walk.eq); (case hd => rfl); (case hi => rfl); case h => (intro w2 hw2 N hN; simp only [Ch.depsOf, List.filterMap_nil, List.filterMap_cons, List.getElem?_toArray, List.getElem?_cons_zero, List.getElem?_cons_succ, Option.bind_some, List.nil_append, List.cons_append, Ch.Ob]; go_simp; (try go_bits); with_reducible exact hN _ (Chg.refl _ _) (fun _ h => h)))
              ((with_reducible apply Ch.Walk.eq); (case hd => rfl); (case hi => rfl); case h => (intro w2 hw2 N hN; (have hcv := conv_bytes (dst := 9) Tryd.underlying32 Tryd.underlying5 Tryd.underlying9 (hw2.bytesAt HUB.out (fun _ _ h => h)) uc; rw [hlt8] at hcv); simp only [Ch.depsOf, List.filterMap_nil, List.filterMap_cons, List.getElem?_toArray, List.getElem?_cons_zero, List.getElem?_cons_succ, Option.bind_some, List.nil_append, List.cons_append, Ch.Ob]; go_simp; (try go_bits); with_reducible exact hN _ (Chg.refl _ _) (fun _ h => h)))
              iterate 3 ((with_reducible apply Ch.Walk.eq); (case hd => rfl); (case hi => rfl); case h => (intro w2 hw2 N hN; simp only [Ch.depsOf, List.filterMap_nil, List.filterMap_cons, List.getElem?_toArray, List.getElem?_cons_zero, List.getElem?_cons_succ, Option.bind_some, List.nil_append, List.cons_append, Ch.Ob]; go_simp; (try go_bits); with_reducible exact hN _ (Chg.refl _ _) (fun _ h => h)))
              ((with_reducible apply Ch.Walk.eq); (case hd => rfl); (case hi => rfl); case h => (intro w2 hw2 N hN; (have hcv := conv_bytes (dst := 9) Tryd.underlying32 Tryd.underlying5 Tryd.underlying9 (hw2.bytesAt HBT9.out (fun _ _ h => h)) cap; rw [hlt8] at hcv); simp only [Ch.depsOf, List.filterMap_nil, List.filterMap_cons, List.getElem?_toArray, List.getElem?_cons_zero, List.getElem?_cons_succ, Option.bind_some, List.nil_append, List.cons_append, Ch.Ob]; go_simp; (try go_bits); with_reducible exact hN _ (Chg.refl _ _) (fun _ h => h)))
              iterate 2 ((with_reducible apply Ch.Walk.eq); (case hd => rfl); (case hi => rfl); case h => (intro w2 hw2 N hN; simp only [Ch.depsOf, List.filterMap_nil, List.filterMap_cons, List.getElem?_toArray, List.getElem?_cons_zero, List.getElem?_cons_succ, Option.bind_some, List.nil_append, List.cons_append, Ch.Ob]; go_simp; (try go_bits); with_reducible exact hN _ (Chg.refl _ _) (fun _ h => h)))
              intro w4 hw4
              simp only [List.nil_append, List.cons_append, Ch.Fin, List.map_cons, List.map_nil, List.getD_cons_zero, List.getD_cons_succ]
              go_simp
              have hz4 := hz9.chg hw4 (fun h => h) (fun h => h)
              have hch4 := hch9.trans hw4 (fun _ h => .inl h)
              have hx4 := hx9.chg hw4 (fun h => h)
              have hown4 := ownsRow_chg HO9.out hw4 (fun _ _ h => h)
              have HO4 := Lib.hid hown4
              obtain ⟨hz1, hz2⟩ := hz4
              clear hown4 HO9 x0 x1 x2
              have x0 := hx4.cell (j := 0) rfl
              have x1 := hx4.cell (j := 1) rfl
              have x2 := hx4.cell (j := 2) rfl
              have z0 := hz1.cell (j := 0) rfl
              have z1 := hz1.cell (j := 1) rfl
              have z2 := hz1.cell (j := 2) rfl
              have y0 := hz1.free 0
              have y1 := hz1.free 1
              have y2 := hz1.free 2
              go_wp2_with fail
              refine bodyPost_ret (v := .tuple #[.agg #[.int .i64 base, .int .i64 ((base : Int) + len), .slice vx acc.length vc], .int .i64 n, .int .i64 0]) (by simp [results, Tryd.results12, go_sem, z0, z1, z2]) rfl (HP _ _ ⟨?_, .inr ⟨HX0.out, .slice vx acc.length vc, by rw [HPB.out, HPL.out], ?_, ?_⟩⟩)
              · exact ((hch4.setCell (.inr (Nat.le_refl _)) _).setCell (.inr (Nat.le_refl _)) _).setCell (.inr (Nat.le_refl _)) _
              · rw [HR2.out]
                exact ownsRow_chg HO4.out ((((Chg.refl (fun i => i = w.heap.size) _).setCell (.inl rfl) _).setCell (.inl rfl) _).setCell (.inl rfl) _) (fun i hi e => by have := hvb i hi; omega)
              · intro i hi
                have := hvb i hi
                omega

            · have HX3 : Hid (refDecErr l = 3) := by unfold Hid; rw [HX4.out, if_pos hLT]
              have hbq : (L == T) = false := by rw [beq_eq_false_iff_ne]; exact hLT
              clear HX4 hLT
              go_upto_region 25 with fail
              refine Ch.wp_region_chain _ (Chg (Nil)) [] (fun _ _ => True) (by kernel_rfl) (fun _ => Chg.refl _ _) (fun _ _ _ h k => h.trans k (fun _ h => .inl h)) [[], [0], [1], [2], [3], [4], [4, 5], [4, 6], [7], [8], [8, 9], [8], [8], [8, 11, 12], [8, 13], [8, 10, 14], [8, 15]] rfl (by kernel_rfl) (by kernel_rfl) (Chg.refl _ _).drew ?_ ?_
              · trivial
              iterate 3 ((with_reducible apply Ch.Walk.eq); (case hd => rfl); (case hi => rfl); case h => (intro w2 hw2 N hN; simp only [Ch.depsOf, List.filterMap_nil, List.filterMap_cons, List.getElem?_toArray, List.getElem?_cons_zero, List.getElem?_cons_succ, Option.bind_some, List.nil_append, List.cons_append, Ch.Ob]; go_simp; (try go_bits); with_reducible exact hN _ (Chg.refl _ _) (fun _ h => h)))
              ((with_reducible apply Ch.Walk.eq); (case hd => rfl); (case hi => rfl); case h => (intro w2 hw2 N hN; (have hc := hw2.cell c1 (fun h => h)); simp only [Ch.depsOf, List.filterMap_nil, List.filterMap_cons, List.getElem?_toArray, List.getElem?_cons_zero, List.getElem?_cons_succ, Option.bind_some, List.nil_append, List.cons_append, Ch.Ob]; go_simp; (try go_bits); with_reducible exact hN _ (Chg.refl _ _) (fun _ h => h)))
              iterate 6 ((with_reducible apply Ch.Walk.eq); (case hd => rfl); (case hi => rfl); case h => (intro w2 hw2 N hN; simp only [Ch.depsOf, List.filterMap_nil, List.filterMap_cons, List.getElem?_toArray, List.getElem?_cons_zero, List.getElem?_cons_succ, Option.bind_some, List.nil_append, List.cons_append, Ch.Ob]; go_simp; (try go_bits); with_reducible exact hN _ (Chg.refl _ _) (fun _ h => h)))
              ((with_reducible apply Ch.Walk.eq); (case hd => rfl); (case hi => rfl); case h => (intro w2 hw2 N hN; (have hcv := conv_bytes (dst := 9) Tryd.underlying32 Tryd.underlying5 Tryd.underlying9 (hw2.bytesAt HUB.out (fun _ _ h => h)) uc); simp only [Ch.depsOf, List.filterMap_nil, List.filterMap_cons, List.getElem?_toArray, List.getElem?_cons_zero, List.getElem?_cons_succ, Option.bind_some, List.nil_append, List.cons_append, Ch.Ob]; go_simp; (try go_bits); with_reducible exact hN _ (Chg.refl _ _) (fun _ h => h)))
              iterate 3 ((with_reducible apply Ch.Walk.eq); (case hd => rfl); (case hi => rfl); case h => (intro w2 hw2 N hN; simp only [Ch.depsOf, List.filterMap_nil, List.filterMap_cons, List.getElem?_toArray, List.getElem?_cons_zero, List.getElem?_cons_succ, Option.bind_some, List.nil_append, List.cons_append, Ch.Ob]; go_simp; (try go_bits); with_reducible exact hN _ (Chg.refl _ _) (fun _ h => h)))
              ((with_reducible apply Ch.Walk.eq); (case hd => rfl); (case hi => rfl); case h => (intro w2 hw2 N hN; (have hcv := conv_bytes (dst := 9) Tryd.underlying32 Tryd.underlying5 Tryd.underlying9 (hw2.bytesAt HBT9.out (fun _ _ h => h)) cap; rw [hlt8] at hcv); simp only [Ch.depsOf, List.filterMap_nil, List.filterMap_cons, List.getElem?_toArray, List.getElem?_cons_zero, List.getElem?_cons_succ, Option.bind_some, List.nil_append, List.cons_append, Ch.Ob]; go_simp; (try go_bits); with_reducible exact hN _ (Chg.refl _ _) (fun _ h => h)))
              iterate 2 ((with_reducible apply Ch.Walk.eq); (case hd => rfl); (case hi => rfl); case h => (intro w2 hw2 N hN; simp only [Ch.depsOf, List.filterMap_nil, List.filterMap_cons, List.getElem?_toArray, List.getElem?_cons_zero, List.getElem?_cons_succ, Option.bind_some, List.nil_append, List.cons_append, Ch.Ob]; go_simp; (try go_bits); with_reducible exact hN _ (Chg.refl _ _) (fun _ h => h)))
              intro w4 hw4
              simp only [List.nil_append, List.cons_append, Ch.Fin, List.map_cons, List.map_nil, List.getD_cons_zero, List.getD_cons_succ]
              go_simp
              have hz4 := hz9.chg hw4 (fun h => h) (fun h => h)
              have hch4 := hch9.trans hw4 (fun _ h => .inl h)
              obtain ⟨hz1, hz2⟩ := hz4
              have n0 := hz2.cell (j := 0) rfl
              have n1 := hz2.cell (j := 1) rfl
              have n2 := hz2.cell (j := 2) rfl
              have z0 := hz1.cell (j := 0) rfl
              have z1 := hz1.cell (j := 1) rfl
              have z2 := hz1.cell (j := 2) rfl
              have y0 := hz1.free 0
              have y1 := hz1.free 1
              have y2 := hz1.free 2
              go_wp2_with fail
              refine bodyPost_ret (v := .tuple #[.agg #[.int .i64 0, .int .i64 0, .slice none 0 0], .int .i64 0, .int .i64 3]) (by simp [results, Tryd.results12, go_sem, z0, z1, z2]) rfl (HP _ _ ⟨?_, .inl ⟨by rw [HX3.out]; simp, by rw [HX3.out]; rfl⟩⟩)
              exact ((hch4.setCell (.inr (Nat.le_refl _)) _).setCell (.inr (Nat.le_refl _)) _).setCell (.inr (Nat.le_refl _)) _

end Go.Proofs.YtaipjojigaeejaaDoor
