/-
  The walk of RecordChecks.
-/
import Derived.Test.YtaipjojigaeejaaDoorCheckW
import Derived.Test.YtaipjojigaeejaaDoorRefCheckW
import Derived.Test.YtaipjojigaeejaaDoorBareW
import Derived.Test.YtaipjojigaeejaaDoorChain
import Derived.Test.YtaipjojigaeejaaDoorBatchW
set_option linter.unusedSimpArgs false
namespace Go.Proofs.YtaipjojigaeejaaDoor
open Go.RowKit

set_option maxHeartbeats 1000000 in
set_option maxRecDepth 100000 in
theorem recordChecks_any (base en : Int) (a : Option Addr) (rs : List Rec) (cap : Nat) (w : World) (hg : Handle w) (hb : -9223372036854775808 ≤ base ∧ base ≤ 9223372036854775807) (he : -9223372036854775808 ≤ en ∧ en ≤ 9223372036854775807) (hl : rs.length ≤ maxLen) (hok : ∀ r ∈ rs, Rec.Ok r) (hc : RecsAt w a rs) :
    Calls Tryd.prog 3 #[.agg #[.int .i64 base, .int .i64 en, .slice a rs.length cap]] w fun e w' => e = .returned (.bool true) ∧ Chg Nil w w' := by
  have HCK := Lib.hid (fun w' h => check_any base en a rs cap w' hb he hl hok h)
  have HRK := Lib.hid (fun w' h => refCheck_any base en a rs cap w' hb he hl hok h)
  have HB := Lib.hid (fun w' h => lawBare_any (checkB base en rs) w' h)
  have HC := Lib.hid hc
  clear hok hc
  generalize checkB base en rs = ce at *
  unfold maxLen at hl
  have hx : Box (w.alloc (.cells #[.int .i64 base, .int .i64 en, .slice a rs.length cap] 24)) w.heap.size [.int .i64 base, .int .i64 en, .slice a rs.length cap] 24 := Box.new _ _ _
  have hch0 : Chg Nil w (w.alloc (.cells #[.int .i64 base, .int .i64 en, .slice a rs.length cap] 24)) := (Chg.refl _ _).alloc _
  go_enter Tryd.func3, Tryd.ntmps3
  go_upto_region 1 with fail
  generalize (w.alloc (.cells #[.int .i64 base, .int .i64 en, .slice a rs.length cap] 24)) = w1 at *
  by_cases h80 : 80 < rs.length
  · have hd : decide ((80 : Int) < (rs.length : Int)) = true := by simp; omega
    refine Ch.wp_region_chain _ (Chg (Nil)) [] (fun _ _ => True) (by kernel_rfl) (fun _ => Chg.refl _ _) (fun _ _ _ h k => h.trans k (fun _ h => .inl h)) [[], [0], [1], [2], [3], [4], [4, 5], [4], [4, 7], [4, 6, 8], [4, 9], [10]] rfl (by kernel_rfl) (by kernel_rfl) (Chg.refl _ _).drew ?_ ?_
    · trivial
    ((with_reducible apply Ch.Walk.eq); (case hd => rfl); (case hi => rfl); case h => (intro w2 hw2 N hN; simp only [Ch.depsOf, List.filterMap_nil, List.filterMap_cons, List.getElem?_toArray, List.getElem?_cons_zero, List.getElem?_cons_succ, Option.bind_some, List.nil_append, List.cons_append, Ch.Ob]; go_simp; (try go_bits); with_reducible exact hN _ (Chg.refl _ _) (fun _ h => h)))
    ((with_reducible apply Ch.Walk.eq); (case hd => rfl); (case hi => rfl); case h => (intro w2 hw2 N hN; (have hx2 := (hx.chg hw2 (fun h => h)).cell (j := 2) rfl); simp only [Ch.depsOf, List.filterMap_nil, List.filterMap_cons, List.getElem?_toArray, List.getElem?_cons_zero, List.getElem?_cons_succ, Option.bind_some, List.nil_append, List.cons_append, Ch.Ob]; go_simp; (try go_bits); with_reducible exact hN _ (Chg.refl _ _) (fun _ h => h)))
    iterate 10 ((with_reducible apply Ch.Walk.eq); (case hd => rfl); (case hi => rfl); case h => (intro w2 hw2 N hN; simp only [Ch.depsOf, List.filterMap_nil, List.filterMap_cons, List.getElem?_toArray, List.getElem?_cons_zero, List.getElem?_cons_succ, Option.bind_some, List.nil_append, List.cons_append, Ch.Ob]; go_simp; (try go_bits); with_reducible exact hN _ (Chg.refl _ _) (fun _ h => h)))
    intro w2 hw2
    simp only [List.nil_append, List.cons_append, Ch.Fin, List.map_cons, List.map_nil, List.getD_cons_zero, List.getD_cons_succ]
    go_simp
    go_wp2_with fail
    go_ret
    exact ⟨rfl, hch0.trans hw2 (fun _ h => .inl h)⟩
  · have hd : decide ((80 : Int) < (rs.length : Int)) = false := by simp; omega
    refine Ch.wp_region_chain _ (Chg (Nil)) [] (fun _ _ => True) (by kernel_rfl) (fun _ => Chg.refl _ _) (fun _ _ _ h k => h.trans k (fun _ h => .inl h)) [[], [0], [1], [2], [3], [4], [4, 5], [4], [4, 7], [4, 6, 8], [4, 9], [10]] rfl (by kernel_rfl) (by kernel_rfl) (Chg.refl _ _).drew ?_ ?_
    · trivial
    ((with_reducible apply Ch.Walk.eq); (case hd => rfl); (case hi => rfl); case h => (intro w2 hw2 N hN; simp only [Ch.depsOf, List.filterMap_nil, List.filterMap_cons, List.getElem?_toArray, List.getElem?_cons_zero, List.getElem?_cons_succ, Option.bind_some, List.nil_append, List.cons_append, Ch.Ob]; go_simp; (try go_bits); with_reducible exact hN _ (Chg.refl _ _) (fun _ h => h)))
    ((with_reducible apply Ch.Walk.eq); (case hd => rfl); (case hi => rfl); case h => (intro w2 hw2 N hN; (have hx2 := (hx.chg hw2 (fun h => h)).cell (j := 2) rfl); simp only [Ch.depsOf, List.filterMap_nil, List.filterMap_cons, List.getElem?_toArray, List.getElem?_cons_zero, List.getElem?_cons_succ, Option.bind_some, List.nil_append, List.cons_append, Ch.Ob]; go_simp; (try go_bits); with_reducible exact hN _ (Chg.refl _ _) (fun _ h => h)))
    iterate 3 ((with_reducible apply Ch.Walk.eq); (case hd => rfl); (case hi => rfl); case h => (intro w2 hw2 N hN; simp only [Ch.depsOf, List.filterMap_nil, List.filterMap_cons, List.getElem?_toArray, List.getElem?_cons_zero, List.getElem?_cons_succ, Option.bind_some, List.nil_append, List.cons_append, Ch.Ob]; go_simp; (try go_bits); with_reducible exact hN _ (Chg.refl _ _) (fun _ h => h)))
    ((with_reducible apply Ch.Walk.eq); (case hd => rfl); (case hi => rfl); case h => (intro w2 hw2 N hN; (have hxw := hx.chg hw2 (fun h => h); have hx0 := hxw.cell (j := 0) rfl; have hx1 := hxw.cell (j := 1) rfl; have hx2 := hxw.cell (j := 2) rfl; clear hxw); simp only [Ch.depsOf, List.filterMap_nil, List.filterMap_cons, List.getElem?_toArray, List.getElem?_cons_zero, List.getElem?_cons_succ, Option.bind_some, List.nil_append, List.cons_append, Ch.Ob]; go_simp; (try go_bits); with_reducible exact hN _ (Chg.refl _ _) (fun _ h => h)))
    with_reducible apply Ch.Walk.eq
    case hd => rfl
    case hi => rfl
    case h =>
      intro w2 hw2 N hN
      simp only [Ch.depsOf, List.filterMap_nil, List.filterMap_cons, List.getElem?_toArray, List.getElem?_cons_zero, List.getElem?_cons_succ, Option.bind_some, List.nil_append, List.cons_append, Ch.Ob, Ch.chained_get, Option.map_some, List.idxOf?, List.findIdx?, List.findIdx?.go, Nat.reduceBEq, List.getD_cons_zero, List.getD_cons_succ, Nat.reduceAdd, if_true, if_false, Bool.false_eq_true]
      go_simp
      have hch2 := hch0.trans hw2 (fun _ h => .inl h)
      refine (HCK.out w2 (RecsAt.chg hch2 HC.out (fun _ _ h => h))).mono ?_
      rintro e w4 ⟨rfl, hc4⟩
      exact ⟨_, rfl, hN _ hc4 (fun _ h => h)⟩
    ((with_reducible apply Ch.Walk.eq); (case hd => rfl); (case hi => rfl); case h => (intro w2 hw2 N hN; (have hxw := hx.chg hw2 (fun h => h); have hx0 := hxw.cell (j := 0) rfl; have hx1 := hxw.cell (j := 1) rfl; have hx2 := hxw.cell (j := 2) rfl; clear hxw); simp only [Ch.depsOf, List.filterMap_nil, List.filterMap_cons, List.getElem?_toArray, List.getElem?_cons_zero, List.getElem?_cons_succ, Option.bind_some, List.nil_append, List.cons_append, Ch.Ob]; go_simp; (try go_bits); with_reducible exact hN _ (Chg.refl _ _) (fun _ h => h)))
    with_reducible apply Ch.Walk.eq
    case hd => rfl
    case hi => rfl
    case h =>
      intro w2 hw2 N hN
      simp only [Ch.depsOf, List.filterMap_nil, List.filterMap_cons, List.getElem?_toArray, List.getElem?_cons_zero, List.getElem?_cons_succ, Option.bind_some, List.nil_append, List.cons_append, Ch.Ob, Ch.chained_get, Option.map_some, List.idxOf?, List.findIdx?, List.findIdx?.go, Nat.reduceBEq, List.getD_cons_zero, List.getD_cons_succ, Nat.reduceAdd, if_true, if_false, Bool.false_eq_true]
      go_simp
      have hch2 := hch0.trans hw2 (fun _ h => .inl h)
      refine (HRK.out w2 (RecsAt.chg hch2 HC.out (fun _ _ h => h))).mono ?_
      rintro e w4 ⟨rfl, hc4⟩
      exact ⟨_, rfl, hN _ hc4 (fun _ h => h)⟩
    with_reducible apply Ch.Walk.eq
    case hd => rfl
    case hi => rfl
    case h =>
      intro w2 hw2 N hN
      simp only [Ch.depsOf, List.filterMap_nil, List.filterMap_cons, List.getElem?_toArray, List.getElem?_cons_zero, List.getElem?_cons_succ, Option.bind_some, List.nil_append, List.cons_append, Ch.Ob, Ch.chained_get, Option.map_some, List.idxOf?, List.findIdx?, List.findIdx?.go, Nat.reduceBEq, List.getD_cons_zero, List.getD_cons_succ, Nat.reduceAdd, if_true, if_false, Bool.false_eq_true]
      go_simp
      have hch2 := hch0.trans hw2 (fun _ h => .inl h)
      refine (HB.out w2 (hg.chg hch2 (fun h => h))).mono ?_
      rintro e w4 ⟨rfl, hc4⟩
      exact ⟨_, rfl, hN _ hc4 (fun _ h => h)⟩
    iterate 2 ((with_reducible apply Ch.Walk.eq); (case hd => rfl); (case hi => rfl); case h => (intro w2 hw2 N hN; simp only [Ch.depsOf, List.filterMap_nil, List.filterMap_cons, List.getElem?_toArray, List.getElem?_cons_zero, List.getElem?_cons_succ, Option.bind_some, List.nil_append, List.cons_append, Ch.Ob]; go_simp; (try go_bits); with_reducible exact hN _ (Chg.refl _ _) (fun _ h => h)))
    intro w2 hw2
    simp only [List.nil_append, List.cons_append, Ch.Fin, List.map_cons, List.map_nil, List.getD_cons_zero, List.getD_cons_succ]
    go_simp
    go_wp2_with fail
    go_ret
    exact ⟨rfl, hch0.trans hw2 (fun _ h => .inl h)⟩
end Go.Proofs.YtaipjojigaeejaaDoor
