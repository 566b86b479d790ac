/-
  A segment beside its disk; Sync, Remove. (Of the segments' seat: errD is the disk's errV there.)
-/
import Derived.Test.YtdjmifaidgbbaaaGreatDoorLa08
import Derived.Test.YtdjmifaidgbbaaaGreatDoorLa17
set_option linter.unusedSimpArgs false
set_option linter.unusedVariables false
namespace Go.Proofs.YtdjmifaidgbbaaaGreatDoor
open Go.RowKit Go.Maps

/-- The disk and a segment on it, of blocks other than those of B, which are kept. -/
structure SgS (B : Nat → Prop) (w : World) (p s : Nat) (S : Nat → Prop) (v : Value) (d : Dk) (g : Sg) : Prop where
  lo : ∀ k, B k → k < w.heap.size
  a : DiskAt w p S d
  m : Sm w s p v g
  ap : ∀ k, SHas s v k → ¬ S k
  sl : ∀ k, S k → ¬ B k ∧ k < w.heap.size
  ml : ∀ k, SHas s v k → ¬ B k
theorem SgS.disk {B : Nat → Prop} {w w' : World} {p s : Nat} {S : Nat → Prop} {v : Value} {d d' : Dk} {g : Sg} (h : SgS B w p s S v d g) (ha : DiskAt w' p (Gr S w w') d') (hc : Chg S w w') : SgS B w' p s (Gr S w w') v d' g := by
  have hz := hc.size
  refine ⟨fun k hk => Nat.lt_of_lt_of_le (h.lo k hk) hz, ha, h.m.chg hc (fun k hk => h.ap k hk), ?_, ?_, h.ml⟩
  · rintro k hk (hs | hs)
    · exact h.ap k hk hs
    · have := h.m.lt k hk; omega
  · rintro k (hs | hs)
    · exact ⟨(h.sl k hs).1, by have := (h.sl k hs).2; omega⟩
    · exact ⟨fun hb => by have := h.lo k hb; have := hs.1; omega, hs.2⟩
theorem SgS.seg {B : Nat → Prop} {w w' : World} {p s : Nat} {S : Nat → Prop} {v v' : Value} {d : Dk} {g g' : Sg} (h : SgS B w p s S v d g) (hm : Sm w' s p v' g') (hc : Chg (SHas s v) w w') (hn : ∀ k, SHas s v' k → SHas s v k ∨ w.heap.size ≤ k) : SgS B w' p s S v' d g' := by
  have hz := hc.size
  refine ⟨fun k hk => Nat.lt_of_lt_of_le (h.lo k hk) hz, h.a.chg hc (fun k hk hs => h.ap k hs hk), hm, fun k hk hs => ?_, fun k hs => ⟨(h.sl k hs).1, by have := (h.sl k hs).2; omega⟩, fun k hk => ?_⟩
  · rcases hn k hk with h9 | h9
    · exact h.ap k h9 hs
    · have := (h.sl k hs).2; omega
  · rcases hn k hk with h9 | h9
    · exact h.ml k h9
    · exact fun hb => by have := h.lo k hb; omega
theorem SgS.nil {B : Nat → Prop} {w w' : World} {p s : Nat} {S : Nat → Prop} {v : Value} {d : Dk} {g : Sg} (h : SgS B w p s S v d g) (hc : Chg Nil w w') : SgS B w' p s S v d g := by
  have hz := hc.size
  exact ⟨fun k hk => Nat.lt_of_lt_of_le (h.lo k hk) hz, h.a.chg hc (fun _ _ h => h), h.m.chg hc (fun _ _ h => h), h.ap, fun k hs => ⟨(h.sl k hs).1, by have := (h.sl k hs).2; omega⟩, h.ml⟩
def Off (B : Nat → Prop) : Nat → Prop := fun k => ¬ B k
/-- Between the looks and behind the disk's operation. -/
def SopF (B : Nat → Prop) (p s : Nat) (S : Nat → Prop) (v : Value) (d : Dk) (g : Sg) (r : Nat × Dk) : List Value → World → Prop
  | [], w => SgS B w p s S v d g
  | _ :: _, w => ∃ S', SgS B w p s S' v r.2 g
theorem SopF.nil {B : Nat → Prop} {p s : Nat} {S : Nat → Prop} {v : Value} {d : Dk} {g : Sg} {r : Nat × Dk} {w w' : World} (hc : Chg Nil w w') : ∀ vs, SopF B p s S v d g r vs w → SopF B p s S v d g r vs w'
  | [], h => SgS.nil h hc
  | _ :: _, ⟨S', h⟩ => ⟨S', h.nil hc⟩

set_option maxHeartbeats 2000000 in
set_option maxRecDepth 20000 in
theorem ssync_any {B : Nat → Prop} {w : World} {p s : Nat} {S : Nat → Prop} {v : Value} {d : Dk} {g : Sg} (h : SgS B w p s S v d g) (hg : g.name.length ≤ 1000) :
    Calls Tryz.prog 56 #[.pointer (some ⟨s, 0, none⟩)] w fun e w' => e = .returned (errD (d.sync g.name).1) ∧ (∃ S', SgS B w' p s S' v (d.sync g.name).2 g) ∧ Chg (Off B) w w' := by
  have HS := Lib.hid h
  have HG := Lib.hid hg
  have c0 := h.m.c.cell (j := 0) rfl
  have c1 := h.m.c.cell (j := 1) rfl
  have HOP := Lib.hid (fun (w' : World) (h : SgS B w' p s S v d g) => sync_any h.a ⟨g.name.toArray⟩ (by show g.name.toArray.size ≤ 4611686018427387904; simp; have := HG.out; omega))
  obtain ⟨R, hR⟩ : ∃ R, d.sync g.name = R := ⟨_, rfl⟩
  have HR := Lib.hid hR
  clear hR h hg
  rw [HR.out]
  go_enter Tryz.func56, Tryz.ntmps56
  go_upto_region 1 with fail
  refine Ch.wp_region_chain _ (Chg (fun k => ¬ B k ∧ ¬ SHas s v k)) [8] (SopF B p s S v d g R) (by kernel_rfl) (fun _ => Chg.refl _ _) (fun _ _ _ h k => h.trans k (fun _ h => .inl h)) [[], [0], [1], [2], [], [4], [5], [6], [3, 7], [8]] rfl (by kernel_rfl) (by kernel_rfl) (Chg.refl _ _).drew ?_ ?_
  · exact HS.out.nil (Chg.refl Nil _).drew
  iterate 3 ((with_reducible apply Ch.Walk.eq); (case hd => rfl); (case hi => rfl); case h => (intro w2 hw2 N hN; simp only [Ch.depsOf, List.filterMap_nil, List.filterMap_cons, List.getElem?_toArray, List.getElem?_cons_zero, List.getElem?_cons_succ, Option.bind_some, List.nil_append, List.cons_append, Ch.Ob]; go_simp; (try go_bits); with_reducible exact hN _ (Chg.refl _ _) (fun _ h => h)))
  ((with_reducible apply Ch.Walk.eq); (case hd => rfl); (case hi => rfl); case h => (intro w2 hw2 N hN; (have hq := hw2.cell c0 (fun h => h.2 (.inl rfl))); simp only [Ch.depsOf, List.filterMap_nil, List.filterMap_cons, List.getElem?_toArray, List.getElem?_cons_zero, List.getElem?_cons_succ, Option.bind_some, List.nil_append, List.cons_append, Ch.Ob]; go_simp; (try go_bits); with_reducible exact hN _ (Chg.refl _ _) (fun _ h => h)))
  iterate 3 ((with_reducible apply Ch.Walk.eq); (case hd => rfl); (case hi => rfl); case h => (intro w2 hw2 N hN; simp only [Ch.depsOf, List.filterMap_nil, List.filterMap_cons, List.getElem?_toArray, List.getElem?_cons_zero, List.getElem?_cons_succ, Option.bind_some, List.nil_append, List.cons_append, Ch.Ob]; go_simp; (try go_bits); with_reducible exact hN _ (Chg.refl _ _) (fun _ h => h)))
  ((with_reducible apply Ch.Walk.eq); (case hd => rfl); (case hi => rfl); case h => (intro w2 hw2 N hN; (have hq := hw2.cell c1 (fun h => h.2 (.inl rfl))); simp only [Ch.depsOf, List.filterMap_nil, List.filterMap_cons, List.getElem?_toArray, List.getElem?_cons_zero, List.getElem?_cons_succ, Option.bind_some, List.nil_append, List.cons_append, Ch.Ob]; go_simp; (try go_bits); with_reducible exact hN _ (Chg.refl _ _) (fun _ h => h)))
  refine Ch.Walk.chainE 0 (c := errD R.1) rfl rfl ?_ ?_
  · intro w6 hw6 vs hvs hF N hN
    obtain rfl := List.eq_nil_of_length_eq_zero hvs
    have F3 : SgS B w6 p s S v d g := hF
    have HO6 := Lib.hid (HOP.out w6 F3)
    have HF3 := Lib.hid F3
    clear F3 hF
    simp only [Ch.depsOf, List.filterMap_nil, List.filterMap_cons, List.getElem?_toArray, List.getElem?_cons_zero, List.getElem?_cons_succ, Option.bind_some, List.nil_append, List.cons_append, Ch.Ob, Ch.chained_get, Option.map_some, List.idxOf?, List.findIdx?, List.findIdx?.go, Nat.reduceBEq, List.getD_cons_zero, List.getD_cons_succ, Nat.reduceAdd, if_true, if_false, Bool.false_eq_true]
    go_simp
    refine HO6.out.mono ?_
    rintro e w7 ⟨rfl, h2, h3⟩
    have h2 : DiskAt w7 p (Gr S w6 w7) (d.sync g.name).2 := h2
    have he : errD (d.sync (ByteArray.mk g.name.toArray).data.toList).1 = errD R.1 := by show errD (d.sync g.name).1 = _; rw [HR.out]
    rw [HR.out] at h2
    rw [he]
    exact ⟨_, rfl, hN _ (h3.weak (fun k hk => .inl ⟨(HF3.out.sl k hk).1, fun hs => HF3.out.ap k hs hk⟩)) ⟨_, HF3.out.disk h2 h3⟩⟩
  ((with_reducible apply Ch.Walk.eq); (case hd => rfl); (case hi => rfl); case h => (intro w2 hw2 N hN; simp only [Ch.depsOf, List.filterMap_nil, List.filterMap_cons, List.getElem?_toArray, List.getElem?_cons_zero, List.getElem?_cons_succ, Option.bind_some, List.nil_append, List.cons_append, Ch.Ob]; go_simp; (try go_bits); with_reducible exact hN _ (Chg.refl _ _) (fun _ h => h)))
  intro w6 hw6
  simp only [List.nil_append, List.cons_append, Ch.Fin, List.map_cons, List.map_nil, List.getD_cons_zero, List.getD_cons_succ]
  intro hF
  have HF := Lib.hid hF
  have HW6 := Lib.hid hw6
  clear hF hw6 c0 c1
  go_simp
  go_wp2_with fail
  go_ret
  obtain ⟨S', h9⟩ := HF.out
  exact ⟨rfl, ⟨S', h9⟩, HW6.out.weak (fun k hk => .inl hk.1)⟩

set_option maxHeartbeats 2000000 in
set_option maxRecDepth 20000 in
theorem sremove_any {B : Nat → Prop} {w : World} {p s : Nat} {S : Nat → Prop} {v : Value} {d : Dk} {g : Sg} (h : SgS B w p s S v d g) (hg : g.name.length ≤ 1000) :
    Calls Tryz.prog 102 #[.pointer (some ⟨s, 0, none⟩)] w fun e w' => e = .returned (errD (d.remove g.name).1) ∧ (∃ S', SgS B w' p s S' v (d.remove g.name).2 g) ∧ Chg (Off B) w w' := by
  have HS := Lib.hid h
  have HG := Lib.hid hg
  have c0 := h.m.c.cell (j := 0) rfl
  have c1 := h.m.c.cell (j := 1) rfl
  have HOP := Lib.hid (fun (w' : World) (h : SgS B w' p s S v d g) => remove_any h.a ⟨g.name.toArray⟩ (by show g.name.toArray.size ≤ 4611686018427387904; simp; have := HG.out; omega))
  obtain ⟨R, hR⟩ : ∃ R, d.remove g.name = R := ⟨_, rfl⟩
  have HR := Lib.hid hR
  clear hR h hg
  rw [HR.out]
  go_enter Tryz.func102, Tryz.ntmps102
  go_upto_region 1 with fail
  refine Ch.wp_region_chain _ (Chg (fun k => ¬ B k ∧ ¬ SHas s v k)) [8] (SopF B p s S v d g R) (by kernel_rfl) (fun _ => Chg.refl _ _) (fun _ _ _ h k => h.trans k (fun _ h => .inl h)) [[], [0], [1], [2], [], [4], [5], [6], [3, 7], [8]] rfl (by kernel_rfl) (by kernel_rfl) (Chg.refl _ _).drew ?_ ?_
  · exact HS.out.nil (Chg.refl Nil _).drew
  iterate 3 ((with_reducible apply Ch.Walk.eq); (case hd => rfl); (case hi => rfl); case h => (intro w2 hw2 N hN; simp only [Ch.depsOf, List.filterMap_nil, List.filterMap_cons, List.getElem?_toArray, List.getElem?_cons_zero, List.getElem?_cons_succ, Option.bind_some, List.nil_append, List.cons_append, Ch.Ob]; go_simp; (try go_bits); with_reducible exact hN _ (Chg.refl _ _) (fun _ h => h)))
  ((with_reducible apply Ch.Walk.eq); (case hd => rfl); (case hi => rfl); case h => (intro w2 hw2 N hN; (have hq := hw2.cell c0 (fun h => h.2 (.inl rfl))); simp only [Ch.depsOf, List.filterMap_nil, List.filterMap_cons, List.getElem?_toArray, List.getElem?_cons_zero, List.getElem?_cons_succ, Option.bind_some, List.nil_append, List.cons_append, Ch.Ob]; go_simp; (try go_bits); with_reducible exact hN _ (Chg.refl _ _) (fun _ h => h)))
  iterate 3 ((with_reducible apply Ch.Walk.eq); (case hd => rfl); (case hi => rfl); case h => (intro w2 hw2 N hN; simp only [Ch.depsOf, List.filterMap_nil, List.filterMap_cons, List.getElem?_toArray, List.getElem?_cons_zero, List.getElem?_cons_succ, Option.bind_some, List.nil_append, List.cons_append, Ch.Ob]; go_simp; (try go_bits); with_reducible exact hN _ (Chg.refl _ _) (fun _ h => h)))
  ((with_reducible apply Ch.Walk.eq); (case hd => rfl); (case hi => rfl); case h => (intro w2 hw2 N hN; (have hq := hw2.cell c1 (fun h => h.2 (.inl rfl))); simp only [Ch.depsOf, List.filterMap_nil, List.filterMap_cons, List.getElem?_toArray, List.getElem?_cons_zero, List.getElem?_cons_succ, Option.bind_some, List.nil_append, List.cons_append, Ch.Ob]; go_simp; (try go_bits); with_reducible exact hN _ (Chg.refl _ _) (fun _ h => h)))
  refine Ch.Walk.chainE 0 (c := errD R.1) rfl rfl ?_ ?_
  · intro w6 hw6 vs hvs hF N hN
    obtain rfl := List.eq_nil_of_length_eq_zero hvs
    have F3 : SgS B w6 p s S v d g := hF
    have HO6 := Lib.hid (HOP.out w6 F3)
    have HF3 := Lib.hid F3
    clear F3 hF
    simp only [Ch.depsOf, List.filterMap_nil, List.filterMap_cons, List.getElem?_toArray, List.getElem?_cons_zero, List.getElem?_cons_succ, Option.bind_some, List.nil_append, List.cons_append, Ch.Ob, Ch.chained_get, Option.map_some, List.idxOf?, List.findIdx?, List.findIdx?.go, Nat.reduceBEq, List.getD_cons_zero, List.getD_cons_succ, Nat.reduceAdd, if_true, if_false, Bool.false_eq_true]
    go_simp
    refine HO6.out.mono ?_
    rintro e w7 ⟨rfl, h2, h3⟩
    have h2 : DiskAt w7 p (Gr S w6 w7) (d.remove g.name).2 := h2
    have he : errD (d.remove (ByteArray.mk g.name.toArray).data.toList).1 = errD R.1 := by show errD (d.remove g.name).1 = _; rw [HR.out]
    rw [HR.out] at h2
    rw [he]
    exact ⟨_, rfl, hN _ (h3.weak (fun k hk => .inl ⟨(HF3.out.sl k hk).1, fun hs => HF3.out.ap k hs hk⟩)) ⟨_, HF3.out.disk h2 h3⟩⟩
  ((with_reducible apply Ch.Walk.eq); (case hd => rfl); (case hi => rfl); case h => (intro w2 hw2 N hN; simp only [Ch.depsOf, List.filterMap_nil, List.filterMap_cons, List.getElem?_toArray, List.getElem?_cons_zero, List.getElem?_cons_succ, Option.bind_some, List.nil_append, List.cons_append, Ch.Ob]; go_simp; (try go_bits); with_reducible exact hN _ (Chg.refl _ _) (fun _ h => h)))
  intro w6 hw6
  simp only [List.nil_append, List.cons_append, Ch.Fin, List.map_cons, List.map_nil, List.getD_cons_zero, List.getD_cons_succ]
  intro hF
  have HF := Lib.hid hF
  have HW6 := Lib.hid hw6
  clear hF hw6 c0 c1
  go_simp
  go_wp2_with fail
  go_ret
  obtain ⟨S', h9⟩ := HF.out
  exact ⟨rfl, ⟨S', h9⟩, HW6.out.weak (fun k hk => .inl hk.1)⟩
end Go.Proofs.YtdjmifaidgbbaaaGreatDoor
