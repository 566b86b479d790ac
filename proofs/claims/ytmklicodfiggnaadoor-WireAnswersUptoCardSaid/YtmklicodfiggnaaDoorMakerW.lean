/-
  The walks of the document's maker: num, truth, text.
-/
import Derived.Test.YtmklicodfiggnaaDoorWriteL
import Derived.Test.YtmklicodfiggnaaDoorLast2
import Derived.Test.YtmklicodfiggnaaDoorAppC
import Derived.Laws.EntriesVeiled
import Derived.Outline
import Derived.Deep.DeepCutAuto
set_option linter.unusedSimpArgs false
namespace Go.Proofs.YtmklicodfiggnaaDoor
open Go.RowKit

def vA : Value → Option Addr | .slice a _ _ => a | _ => none
def vN : Value → Nat | .slice _ n _ => n | _ => 0
def vC : Value → Nat | .slice _ _ c => c | _ => 0
theorem form_eq {v : Value} (h : ∃ x k c, v = .slice x k c) : v = .slice (vA v) (vN v) (vC v) := by
  obtain ⟨x, k, c, rfl⟩ := h
  rfl

/-- The region's chain: what Put gives, then the append. -/
def PutF (n0 : Nat) (v : Value) (l m : List UInt8) : List Value → World → Prop
  | [], w => OwnB 5 w v l ∧ ∀ k, v.ownBlock = some k → k < n0
  | [p], w => OwnB 5 w v l ∧ (∀ k, v.ownBlock = some k → k < n0) ∧ OwnB 5 w p m ∧ ∀ k, p.ownBlock = some k → n0 ≤ k
  | [_, q], w => OwnB 5 w q (l ++ m) ∧ ∀ k, q.ownBlock = some k → v.ownBlock = some k ∨ n0 ≤ k
  | _, _ => False

set_option maxHeartbeats 2000000 in
set_option maxRecDepth 100000 in
theorem mnum_any (g a : Nat) (v : Value) (s : WS) (l : List Int) (w : World) (hl : l.length ≤ 8) (hs : s.1.length ≤ 10000000000000) (h : Wr 59 w g v s) (ha : Box w a (l.map fun n => .int .i64 n) 3) (hag : a ≠ g) (hav : v.ownBlock ≠ some a) :
    Calls Tryd.prog 23 #[.pointer (some ⟨g, 0, none⟩), .slice (some ⟨a, 0, none⟩) l.length l.length] w fun e w' => e = .returned (.tuple #[]) ∧ ∃ v', Wr 59 w' g v' (numsW s l) ∧ Step g w w' v v' := by
  go_enter Tryd.func23, Tryd.ntmps23
  go_wp2_with fail
  go_loopw [8] (fun i wr => ∃ (k : Nat) (v1 : Value), k ≤ l.length ∧ i = .int .i64 k ∧ Wr 59 wr g v1 (numsW s (l.take k)) ∧ Step g w wr v v1) (fun i _ => l.length - (intOf i).toNat)
  case atStart => exact ⟨0, v, Nat.zero_le _, rfl, h, Step.refl _ _ _⟩
  case round =>
    obtain ⟨k, v1, hk, rfl, hW, hS⟩ := hrel
    by_cases hlt : k < l.length
    · have hcell := (hS.keeps ha hag hav).1.cell (j := k) (u := .int .i64 l[k]) (by simp [hlt])
      have HN : Hid (numsW s (l.take (k + 1)) = numW (numsW s (l.take k)) l[k]) := by unfold Hid; rw [take_snoc l k hlt, numsW_snoc]
      have hln := numsW_len s (l.take k)
      rw [List.length_take] at hln
      generalize numsW s (l.take k) = s1 at *
      generalize l[k] = n at *
      have hlen1 : s1.1.length ≤ 20000000000000 := by omega
      have b1 := hW.box.cell (j := 1) rfl
      have f1 := hW.box.free 1
      have HWW := Lib.hid hW
      clear hln hW
      by_cases hbad : n < 0 ∨ 1099511627776 < n
      · obtain ⟨m, hm0⟩ : ∃ m : Nat, m = 0 := ⟨0, rfl⟩
        have HN2 : Hid (numW s1 n = (s1.1 ++ put m, 2)) := by unfold Hid numW; rw [if_pos hbad, hm0]
        have hset : Chg (fun k => k = g) wr (wr.setCell ⟨g, 1, none⟩ (.int .i64 2)) := (Chg.refl (fun k => k = g) _).setCell (.inl rfl) _
        have hW2 : Wr 59 (wr.setCell ⟨g, 1, none⟩ (.int .i64 2)) g v1 (s1.1, 2) := ⟨HWW.out.box.set 1 _, HWW.out.own.chg hset (fun k hk e => HWW.out.ne (by rw [hk, e])), HWW.out.ne⟩
        have hS2 : Step g wr (wr.setCell ⟨g, 1, none⟩ (.int .i64 2)) v1 v1 := ⟨hset.weak (fun i hi => .inl (.inl hi)), fun _ h => .inl h⟩
        have HW2 := Lib.hid hW2
        have HS2 := Lib.hid hS2
        have hpu : ∀ w3, Calls Tryd.prog 48 #[.int .i64 0] w3 fun e w' => ∃ v', e = .returned v' ∧ FreshB w3 w' v' (put m) := by
          intro w3
          have h := refPut_any 5 m w3 (by omega) (by omega)
          rw [show ((m : Nat) : Int) = 0 by omega] at h
          exact h
        have HPU := Lib.hid hpu
        have hm : m ≤ 1099511627776 := by omega
        clear hset hW2 hS2 hpu hm0
        by_cases hneg : n < 0
        · clear hbad
          go_upto_region 5 with fail
          have hW2 := HW2.out
          have hS2 := HS2.out
          clear HW2 HS2
          generalize wr.setCell ⟨g, 1, none⟩ (.int .i64 2) = wc at *
          have hS3 := hS.trans hS2
          have hgl := hW2.lt
          have hc0 := hW2.box.cell (j := 0) rfl
          have hvn : ∀ k, v1.ownBlock = some k → k < wc.heap.size := hW2.own.lt
          have hvg := hW2.ne
          have HO := Lib.hid hW2.own
          have HBX := Lib.hid hW2.box
          have HLL : Hid (s1.1.length + (put m).length ≤ 140737488355328) := by
            have : (put m).length ≤ 6 := put_length (k := 5) (by omega)
            unfold Hid; omega
          clear hS2 hW2 hcell hS HWW b1 f1
          generalize hn0 : wc.heap.size = n0 at *
          have HN0 := Lib.hid hn0
          clear hn0
          refine Ch.wp_region_last2 _ _ rfl (Chg (fun k => n0 ≤ k ∨ v1.ownBlock = some k)) [6, 7] (PutF n0 v1 s1.1 (put m)) (by kernel_rfl) (fun _ => Chg.refl _ _) (fun _ _ _ h k => h.trans k (fun _ h => .inl h)) [[], [], [1], [2], [3], [], [5], [4, 6], [0], [8]] rfl (by kernel_rfl) (by kernel_rfl) (by kernel_rfl) (Chg.refl _ _).drew ?_ ?_
          · exact ⟨HO.out.drewN 1, hvn⟩
          simp only [List.dropLast_cons_cons, List.dropLast_singleton]
          iterate 4 ((with_reducible apply Ch.Walk.eq); (case hd => rfl); (case hi => rfl); case h => (intro w2 hw2 N hN; simp only [Ch.depsOf, List.filterMap_nil, List.filterMap_cons, List.getElem?_toArray, List.getElem?_cons_zero, List.getElem?_cons_succ, Option.bind_some, List.nil_append, List.cons_append, Ch.Ob]; go_simp; (try go_bits); with_reducible exact hN _ (Chg.refl _ _) (fun _ h => h)))
          ((with_reducible apply Ch.Walk.eq); (case hd => rfl); (case hi => rfl); case h => (intro w2 hw2 N hN; (have hc := hw2.cell hc0 (fun h => h.elim (fun h => by have h : n0 ≤ g := h; omega) (fun h => hvg h))); simp only [Ch.depsOf, List.filterMap_nil, List.filterMap_cons, List.getElem?_toArray, List.getElem?_cons_zero, List.getElem?_cons_succ, Option.bind_some, List.nil_append, List.cons_append, Ch.Ob]; go_simp; (try go_bits); with_reducible exact hN _ (Chg.refl _ _) (fun _ h => h)))
          ((with_reducible apply Ch.Walk.eq); (case hd => rfl); (case hi => rfl); case h => (intro w2 hw2 N hN; simp only [Ch.depsOf, List.filterMap_nil, List.filterMap_cons, List.getElem?_toArray, List.getElem?_cons_zero, List.getElem?_cons_succ, Option.bind_some, List.nil_append, List.cons_append, Ch.Ob]; go_simp; (try go_bits); with_reducible exact hN _ (Chg.refl _ _) (fun _ h => h)))
          refine Ch.Walk.chain 0 rfl rfl ?_ ?_
          · intro w3 hw3 vs hvs hF N hN
            obtain rfl := List.eq_nil_of_length_eq_zero hvs
            simp only [Ch.depsOf, List.filterMap_nil, List.filterMap_cons, List.getElem?_toArray, List.getElem?_cons_zero, List.getElem?_cons_succ, Option.bind_some, List.nil_append, List.cons_append, Ch.Ob, Ch.chained_get, Option.map_some, List.idxOf?, List.findIdx?, List.findIdx?.go, Nat.reduceBEq, List.getD_cons_zero, List.getD_cons_succ, Nat.reduceAdd, if_true, if_false, Bool.false_eq_true]
            go_simp
            refine (HPU.out w3).mono ?_
            rintro e w4 ⟨p, rfl, h1, h2, h3⟩
            refine ⟨_, rfl, hN _ _ (h2.weak (fun _ h => h.elim)) ⟨hF.1.chg h2 (fun _ _ h => h), hF.2, h1, fun k hk => ?_⟩⟩
            have := h3 k hk
            have hz : wc.heap.size ≤ w3.heap.size := hw3.size
            have := HN0.out
            omega
          refine Ch.Walk.chain 1 rfl rfl ?_ ?_
          · intro w3 hw3 vs hvs hF N hN
            obtain ⟨p, rfl⟩ := List.length_eq_one_iff.1 hvs
            simp only [Ch.depsOf, List.filterMap_nil, List.filterMap_cons, List.getElem?_toArray, List.getElem?_cons_zero, List.getElem?_cons_succ, Option.bind_some, List.nil_append, List.cons_append, Ch.Ob, Ch.chained_get, Option.map_some, List.idxOf?, List.findIdx?, List.findIdx?.go, Nat.reduceBEq, List.getD_cons_zero, List.getD_cons_succ, Nat.reduceAdd, if_true, if_false, Bool.false_eq_true]
            obtain ⟨f1, f2, f3, f4⟩ := hF
            refine Ch.if_append rfl (.tmp 25) (.tmp 27) 25 25 rfl bytesT _ Tryd.underlying25 (by intro _; simp) v1 s1.1 rfl f1 p (put m) rfl (Source.own f3) HLL.out (fun v' w' h1 h2 => hN _ _ ?_ ?_)
            · exact h2.chg.weak (fun i hi => .inl (.inr hi))
            · exact ⟨h1, fun k hk => (h2.own k hk).imp id fun h => by have hz : wc.heap.size ≤ w3.heap.size := hw3.size; have := HN0.out; omega⟩
          iterate 2 ((with_reducible apply Ch.Walk.eq); (case hd => rfl); (case hi => rfl); case h => (intro w2 hw2 N hN; simp only [Ch.depsOf, List.filterMap_nil, List.filterMap_cons, List.getElem?_toArray, List.getElem?_cons_zero, List.getElem?_cons_succ, Option.bind_some, List.nil_append, List.cons_append, Ch.Ob]; go_simp; (try go_bits); with_reducible exact hN _ (Chg.refl _ _) (fun _ h => h)))
          intro w6 hw6
          simp only [List.nil_append, List.cons_append, Ch.Fin, List.map_cons, List.map_nil, List.getD_cons_zero, List.getD_cons_succ]
          intro v2 _ v3 _ hF
          have f1 : OwnB 5 w6 v3 (s1.1 ++ put m) := hF.1
          have f2 : ∀ k, v3.ownBlock = some k → v1.ownBlock = some k ∨ n0 ≤ k := hF.2
          clear hF
          generalize put m = M at *
          have hv2 := form_eq (ownsRow_form f1)
          generalize vA v3 = x2 at hv2
          generalize vN v3 = m2 at hv2
          generalize vC v3 = c2 at hv2
          subst hv2
          simp only [Ch.Then, Oper.wp]
          have hng : ¬ (n0 ≤ g ∨ v1.ownBlock = some g) := fun h => h.elim (fun h => by omega) (fun h => hvg h)
          have hBX6 := HBX.out.chg hw6 hng
          have c6 := hBX6.cell (j := 0) rfl
          have y6 := hBX6.free 0
          have HF1 := Lib.hid f1
          clear f1
          go_simp
          have hBX7 := hBX6.set 0 (.slice x2 m2 c2)
          have hset : Chg (fun k => k = g) w6 (w6.setCell ⟨g, 0, none⟩ (.slice x2 m2 c2)) := (Chg.refl (fun k => k = g) _).setCell (.inl rfl) _
          have hne2 : (Value.slice x2 m2 c2).ownBlock ≠ some g := fun e => (f2 g e).elim hvg fun l => by omega
          have hW7 : Wr 59 (w6.setCell ⟨g, 0, none⟩ (.slice x2 m2 c2)) g (.slice x2 m2 c2) (s1.1 ++ M, 2) := ⟨hBX7, HF1.out.chg hset (fun k hk e => hne2 (by rw [hk, e])), hne2⟩
          have hS7 : Step g wc (w6.setCell ⟨g, 0, none⟩ (.slice x2 m2 c2)) v1 (.slice x2 m2 c2) :=
            ⟨(hw6.weak (fun i hi => hi.elim (fun h => .inr (by rw [HN0.out]; exact h)) fun h => .inl (.inr h))).trans hset (fun i hi => .inl (.inl hi)), fun i hi => (f2 i hi).imp id fun h => by rw [HN0.out]; exact h⟩
          have hS8 := hS3.trans hS7
          have HW7 := Lib.hid hW7
          have HS8 := Lib.hid hS8
          clear hW7 hS7 hS8 hset hBX7 c6 y6 hBX6 hw6 hc0 HF1
          generalize w6.setCell ⟨g, 0, none⟩ (.slice x2 m2 c2) = w7 at *
          go_wp2_with fail
          go_roundw
          case rel => exact ⟨k + 1, .slice x2 m2 c2, by omega, by go_num, by rw [HN.out, HN2.out]; exact HW7.out, HS8.out⟩
          case measure => simp [intOf]; omega
        · have hbig : 1099511627776 < n := by omega
          clear hbad
          go_upto_region 5 with fail
          have hW2 := HW2.out
          have hS2 := HS2.out
          clear HW2 HS2
          generalize wr.setCell ⟨g, 1, none⟩ (.int .i64 2) = wc at *
          have hS3 := hS.trans hS2
          have hgl := hW2.lt
          have hc0 := hW2.box.cell (j := 0) rfl
          have hvn : ∀ k, v1.ownBlock = some k → k < wc.heap.size := hW2.own.lt
          have hvg := hW2.ne
          have HO := Lib.hid hW2.own
          have HBX := Lib.hid hW2.box
          have HLL : Hid (s1.1.length + (put m).length ≤ 140737488355328) := by
            have : (put m).length ≤ 6 := put_length (k := 5) (by omega)
            unfold Hid; omega
          clear hS2 hW2 hcell hS HWW b1 f1
          generalize hn0 : wc.heap.size = n0 at *
          have HN0 := Lib.hid hn0
          clear hn0
          refine Ch.wp_region_last2 _ _ rfl (Chg (fun k => n0 ≤ k ∨ v1.ownBlock = some k)) [6, 7] (PutF n0 v1 s1.1 (put m)) (by kernel_rfl) (fun _ => Chg.refl _ _) (fun _ _ _ h k => h.trans k (fun _ h => .inl h)) [[], [], [1], [2], [3], [], [5], [4, 6], [0], [8]] rfl (by kernel_rfl) (by kernel_rfl) (by kernel_rfl) (Chg.refl _ _).drew ?_ ?_
          · exact ⟨HO.out.drewN 1, hvn⟩
          simp only [List.dropLast_cons_cons, List.dropLast_singleton]
          iterate 4 ((with_reducible apply Ch.Walk.eq); (case hd => rfl); (case hi => rfl); case h => (intro w2 hw2 N hN; simp only [Ch.depsOf, List.filterMap_nil, List.filterMap_cons, List.getElem?_toArray, List.getElem?_cons_zero, List.getElem?_cons_succ, Option.bind_some, List.nil_append, List.cons_append, Ch.Ob]; go_simp; (try go_bits); with_reducible exact hN _ (Chg.refl _ _) (fun _ h => h)))
          ((with_reducible apply Ch.Walk.eq); (case hd => rfl); (case hi => rfl); case h => (intro w2 hw2 N hN; (have hc := hw2.cell hc0 (fun h => h.elim (fun h => by have h : n0 ≤ g := h; omega) (fun h => hvg h))); simp only [Ch.depsOf, List.filterMap_nil, List.filterMap_cons, List.getElem?_toArray, List.getElem?_cons_zero, List.getElem?_cons_succ, Option.bind_some, List.nil_append, List.cons_append, Ch.Ob]; go_simp; (try go_bits); with_reducible exact hN _ (Chg.refl _ _) (fun _ h => h)))
          ((with_reducible apply Ch.Walk.eq); (case hd => rfl); (case hi => rfl); case h => (intro w2 hw2 N hN; simp only [Ch.depsOf, List.filterMap_nil, List.filterMap_cons, List.getElem?_toArray, List.getElem?_cons_zero, List.getElem?_cons_succ, Option.bind_some, List.nil_append, List.cons_append, Ch.Ob]; go_simp; (try go_bits); with_reducible exact hN _ (Chg.refl _ _) (fun _ h => h)))
          refine Ch.Walk.chain 0 rfl rfl ?_ ?_
          · intro w3 hw3 vs hvs hF N hN
            obtain rfl := List.eq_nil_of_length_eq_zero hvs
            simp only [Ch.depsOf, List.filterMap_nil, List.filterMap_cons, List.getElem?_toArray, List.getElem?_cons_zero, List.getElem?_cons_succ, Option.bind_some, List.nil_append, List.cons_append, Ch.Ob, Ch.chained_get, Option.map_some, List.idxOf?, List.findIdx?, List.findIdx?.go, Nat.reduceBEq, List.getD_cons_zero, List.getD_cons_succ, Nat.reduceAdd, if_true, if_false, Bool.false_eq_true]
            go_simp
            refine (HPU.out w3).mono ?_
            rintro e w4 ⟨p, rfl, h1, h2, h3⟩
            refine ⟨_, rfl, hN _ _ (h2.weak (fun _ h => h.elim)) ⟨hF.1.chg h2 (fun _ _ h => h), hF.2, h1, fun k hk => ?_⟩⟩
            have := h3 k hk
            have hz : wc.heap.size ≤ w3.heap.size := hw3.size
            have := HN0.out
            omega
          refine Ch.Walk.chain 1 rfl rfl ?_ ?_
          · intro w3 hw3 vs hvs hF N hN
            obtain ⟨p, rfl⟩ := List.length_eq_one_iff.1 hvs
            simp only [Ch.depsOf, List.filterMap_nil, List.filterMap_cons, List.getElem?_toArray, List.getElem?_cons_zero, List.getElem?_cons_succ, Option.bind_some, List.nil_append, List.cons_append, Ch.Ob, Ch.chained_get, Option.map_some, List.idxOf?, List.findIdx?, List.findIdx?.go, Nat.reduceBEq, List.getD_cons_zero, List.getD_cons_succ, Nat.reduceAdd, if_true, if_false, Bool.false_eq_true]
            obtain ⟨f1, f2, f3, f4⟩ := hF
            refine Ch.if_append rfl (.tmp 25) (.tmp 27) 25 25 rfl bytesT _ Tryd.underlying25 (by intro _; simp) v1 s1.1 rfl f1 p (put m) rfl (Source.own f3) HLL.out (fun v' w' h1 h2 => hN _ _ ?_ ?_)
            · exact h2.chg.weak (fun i hi => .inl (.inr hi))
            · exact ⟨h1, fun k hk => (h2.own k hk).imp id fun h => by have hz : wc.heap.size ≤ w3.heap.size := hw3.size; have := HN0.out; omega⟩
          iterate 2 ((with_reducible apply Ch.Walk.eq); (case hd => rfl); (case hi => rfl); case h => (intro w2 hw2 N hN; simp only [Ch.depsOf, List.filterMap_nil, List.filterMap_cons, List.getElem?_toArray, List.getElem?_cons_zero, List.getElem?_cons_succ, Option.bind_some, List.nil_append, List.cons_append, Ch.Ob]; go_simp; (try go_bits); with_reducible exact hN _ (Chg.refl _ _) (fun _ h => h)))
          intro w6 hw6
          simp only [List.nil_append, List.cons_append, Ch.Fin, List.map_cons, List.map_nil, List.getD_cons_zero, List.getD_cons_succ]
          intro v2 _ v3 _ hF
          have f1 : OwnB 5 w6 v3 (s1.1 ++ put m) := hF.1
          have f2 : ∀ k, v3.ownBlock = some k → v1.ownBlock = some k ∨ n0 ≤ k := hF.2
          clear hF
          generalize put m = M at *
          have hv2 := form_eq (ownsRow_form f1)
          generalize vA v3 = x2 at hv2
          generalize vN v3 = m2 at hv2
          generalize vC v3 = c2 at hv2
          subst hv2
          simp only [Ch.Then, Oper.wp]
          have hng : ¬ (n0 ≤ g ∨ v1.ownBlock = some g) := fun h => h.elim (fun h => by omega) (fun h => hvg h)
          have hBX6 := HBX.out.chg hw6 hng
          have c6 := hBX6.cell (j := 0) rfl
          have y6 := hBX6.free 0
          have HF1 := Lib.hid f1
          clear f1
          go_simp
          have hBX7 := hBX6.set 0 (.slice x2 m2 c2)
          have hset : Chg (fun k => k = g) w6 (w6.setCell ⟨g, 0, none⟩ (.slice x2 m2 c2)) := (Chg.refl (fun k => k = g) _).setCell (.inl rfl) _
          have hne2 : (Value.slice x2 m2 c2).ownBlock ≠ some g := fun e => (f2 g e).elim hvg fun l => by omega
          have hW7 : Wr 59 (w6.setCell ⟨g, 0, none⟩ (.slice x2 m2 c2)) g (.slice x2 m2 c2) (s1.1 ++ M, 2) := ⟨hBX7, HF1.out.chg hset (fun k hk e => hne2 (by rw [hk, e])), hne2⟩
          have hS7 : Step g wc (w6.setCell ⟨g, 0, none⟩ (.slice x2 m2 c2)) v1 (.slice x2 m2 c2) :=
            ⟨(hw6.weak (fun i hi => hi.elim (fun h => .inr (by rw [HN0.out]; exact h)) fun h => .inl (.inr h))).trans hset (fun i hi => .inl (.inl hi)), fun i hi => (f2 i hi).imp id fun h => by rw [HN0.out]; exact h⟩
          have hS8 := hS3.trans hS7
          have HW7 := Lib.hid hW7
          have HS8 := Lib.hid hS8
          clear hW7 hS7 hS8 hset hBX7 c6 y6 hBX6 hw6 hc0 HF1
          generalize w6.setCell ⟨g, 0, none⟩ (.slice x2 m2 c2) = w7 at *
          go_wp2_with fail
          go_roundw
          case rel => exact ⟨k + 1, .slice x2 m2 c2, by omega, by go_num, by rw [HN.out, HN2.out]; exact HW7.out, HS8.out⟩
          case measure => simp [intOf]; omega
      · obtain ⟨m, rfl⟩ : ∃ m : Nat, n = (m : Int) := ⟨n.toNat, by omega⟩
        have HN2 : Hid (numW s1 (m : Int) = (s1.1 ++ put m, s1.2)) := by unfold Hid numW; rw [if_neg hbad]; rfl
        have hm : m ≤ 1099511627776 := by omega
        have hnb : ¬ 1099511627776 < m := by omega
        have HPU := Lib.hid (fun w3 => refPut_any 5 m w3 (by omega) hm)
        have hW2 := HWW.out
        have hS2 := Step.refl g wr v1
        have HW2 := Lib.hid hW2
        clear hbad hW2
        go_upto_region 5 with fail
        have hW2 := HW2.out
        have hS3 := hS.trans hS2
        have hgl := hW2.lt
        have hc0 := hW2.box.cell (j := 0) rfl
        have hvn : ∀ k, v1.ownBlock = some k → k < wr.heap.size := hW2.own.lt
        have hvg := hW2.ne
        have HO := Lib.hid hW2.own
        have HBX := Lib.hid hW2.box
        have HLL : Hid (s1.1.length + (put m).length ≤ 140737488355328) := by
          have : (put m).length ≤ 6 := put_length (k := 5) (by omega)
          unfold Hid; omega
        clear hS2 hW2 hcell hS HWW b1 f1
        generalize hn0 : wr.heap.size = n0 at *
        have HN0 := Lib.hid hn0
        clear hn0
        refine Ch.wp_region_last2 _ _ rfl (Chg (fun k => n0 ≤ k ∨ v1.ownBlock = some k)) [6, 7] (PutF n0 v1 s1.1 (put m)) (by kernel_rfl) (fun _ => Chg.refl _ _) (fun _ _ _ h k => h.trans k (fun _ h => .inl h)) [[], [], [1], [2], [3], [], [5], [4, 6], [0], [8]] rfl (by kernel_rfl) (by kernel_rfl) (by kernel_rfl) (Chg.refl _ _).drew ?_ ?_
        · exact ⟨HO.out.drewN 1, hvn⟩
        simp only [List.dropLast_cons_cons, List.dropLast_singleton]
        iterate 4 ((with_reducible apply Ch.Walk.eq); (case hd => rfl); (case hi => rfl); case h => (intro w2 hw2 N hN; simp only [Ch.depsOf, List.filterMap_nil, List.filterMap_cons, List.getElem?_toArray, List.getElem?_cons_zero, List.getElem?_cons_succ, Option.bind_some, List.nil_append, List.cons_append, Ch.Ob]; go_simp; (try go_bits); with_reducible exact hN _ (Chg.refl _ _) (fun _ h => h)))
        ((with_reducible apply Ch.Walk.eq); (case hd => rfl); (case hi => rfl); case h => (intro w2 hw2 N hN; (have hc := hw2.cell hc0 (fun h => h.elim (fun h => by have h : n0 ≤ g := h; omega) (fun h => hvg h))); simp only [Ch.depsOf, List.filterMap_nil, List.filterMap_cons, List.getElem?_toArray, List.getElem?_cons_zero, List.getElem?_cons_succ, Option.bind_some, List.nil_append, List.cons_append, Ch.Ob]; go_simp; (try go_bits); with_reducible exact hN _ (Chg.refl _ _) (fun _ h => h)))
        ((with_reducible apply Ch.Walk.eq); (case hd => rfl); (case hi => rfl); case h => (intro w2 hw2 N hN; simp only [Ch.depsOf, List.filterMap_nil, List.filterMap_cons, List.getElem?_toArray, List.getElem?_cons_zero, List.getElem?_cons_succ, Option.bind_some, List.nil_append, List.cons_append, Ch.Ob]; go_simp; (try go_bits); with_reducible exact hN _ (Chg.refl _ _) (fun _ h => h)))
        refine Ch.Walk.chain 0 rfl rfl ?_ ?_
        · intro w3 hw3 vs hvs hF N hN
          obtain rfl := List.eq_nil_of_length_eq_zero hvs
          simp only [Ch.depsOf, List.filterMap_nil, List.filterMap_cons, List.getElem?_toArray, List.getElem?_cons_zero, List.getElem?_cons_succ, Option.bind_some, List.nil_append, List.cons_append, Ch.Ob, Ch.chained_get, Option.map_some, List.idxOf?, List.findIdx?, List.findIdx?.go, Nat.reduceBEq, List.getD_cons_zero, List.getD_cons_succ, Nat.reduceAdd, if_true, if_false, Bool.false_eq_true]
          go_simp
          refine (HPU.out w3).mono ?_
          rintro e w4 ⟨p, rfl, h1, h2, h3⟩
          refine ⟨_, rfl, hN _ _ (h2.weak (fun _ h => h.elim)) ⟨hF.1.chg h2 (fun _ _ h => h), hF.2, h1, fun k hk => ?_⟩⟩
          have := h3 k hk
          have hz : wr.heap.size ≤ w3.heap.size := hw3.size
          have := HN0.out
          omega
        refine Ch.Walk.chain 1 rfl rfl ?_ ?_
        · intro w3 hw3 vs hvs hF N hN
          obtain ⟨p, rfl⟩ := List.length_eq_one_iff.1 hvs
          simp only [Ch.depsOf, List.filterMap_nil, List.filterMap_cons, List.getElem?_toArray, List.getElem?_cons_zero, List.getElem?_cons_succ, Option.bind_some, List.nil_append, List.cons_append, Ch.Ob, Ch.chained_get, Option.map_some, List.idxOf?, List.findIdx?, List.findIdx?.go, Nat.reduceBEq, List.getD_cons_zero, List.getD_cons_succ, Nat.reduceAdd, if_true, if_false, Bool.false_eq_true]
          obtain ⟨f1, f2, f3, f4⟩ := hF
          refine Ch.if_append rfl (.tmp 25) (.tmp 27) 25 25 rfl bytesT _ Tryd.underlying25 (by intro _; simp) v1 s1.1 rfl f1 p (put m) rfl (Source.own f3) HLL.out (fun v' w' h1 h2 => hN _ _ ?_ ?_)
          · exact h2.chg.weak (fun i hi => .inl (.inr hi))
          · exact ⟨h1, fun k hk => (h2.own k hk).imp id fun h => by have hz : wr.heap.size ≤ w3.heap.size := hw3.size; have := HN0.out; omega⟩
        iterate 2 ((with_reducible apply Ch.Walk.eq); (case hd => rfl); (case hi => rfl); case h => (intro w2 hw2 N hN; simp only [Ch.depsOf, List.filterMap_nil, List.filterMap_cons, List.getElem?_toArray, List.getElem?_cons_zero, List.getElem?_cons_succ, Option.bind_some, List.nil_append, List.cons_append, Ch.Ob]; go_simp; (try go_bits); with_reducible exact hN _ (Chg.refl _ _) (fun _ h => h)))
        intro w6 hw6
        simp only [List.nil_append, List.cons_append, Ch.Fin, List.map_cons, List.map_nil, List.getD_cons_zero, List.getD_cons_succ]
        intro v2 _ v3 _ hF
        have f1 : OwnB 5 w6 v3 (s1.1 ++ put m) := hF.1
        have f2 : ∀ k, v3.ownBlock = some k → v1.ownBlock = some k ∨ n0 ≤ k := hF.2
        clear hF
        generalize put m = M at *
        have hv2 := form_eq (ownsRow_form f1)
        generalize vA v3 = x2 at hv2
        generalize vN v3 = m2 at hv2
        generalize vC v3 = c2 at hv2
        subst hv2
        simp only [Ch.Then, Oper.wp]
        have hng : ¬ (n0 ≤ g ∨ v1.ownBlock = some g) := fun h => h.elim (fun h => by omega) (fun h => hvg h)
        have hBX6 := HBX.out.chg hw6 hng
        have c6 := hBX6.cell (j := 0) rfl
        have y6 := hBX6.free 0
        have HF1 := Lib.hid f1
        clear f1
        go_simp
        have hBX7 := hBX6.set 0 (.slice x2 m2 c2)
        have hset : Chg (fun k => k = g) w6 (w6.setCell ⟨g, 0, none⟩ (.slice x2 m2 c2)) := (Chg.refl (fun k => k = g) _).setCell (.inl rfl) _
        have hne2 : (Value.slice x2 m2 c2).ownBlock ≠ some g := fun e => (f2 g e).elim hvg fun l => by omega
        have hW7 : Wr 59 (w6.setCell ⟨g, 0, none⟩ (.slice x2 m2 c2)) g (.slice x2 m2 c2) (s1.1 ++ M, s1.2) := ⟨hBX7, HF1.out.chg hset (fun k hk e => hne2 (by rw [hk, e])), hne2⟩
        have hS7 : Step g wr (w6.setCell ⟨g, 0, none⟩ (.slice x2 m2 c2)) v1 (.slice x2 m2 c2) :=
          ⟨(hw6.weak (fun i hi => hi.elim (fun h => .inr (by rw [HN0.out]; exact h)) fun h => .inl (.inr h))).trans hset (fun i hi => .inl (.inl hi)), fun i hi => (f2 i hi).imp id fun h => by rw [HN0.out]; exact h⟩
        have hS8 := hS3.trans hS7
        have HW7 := Lib.hid hW7
        have HS8 := Lib.hid hS8
        clear hW7 hS7 hS8 hset hBX7 c6 y6 hBX6 hw6 hc0 HF1
        generalize w6.setCell ⟨g, 0, none⟩ (.slice x2 m2 c2) = w7 at *
        go_wp2_with fail
        go_roundw
        case rel => exact ⟨k + 1, .slice x2 m2 c2, by omega, by go_num, by rw [HN.out, HN2.out]; exact HW7.out, HS8.out⟩
        case measure => simp [intOf]; omega
    · have hkl : k = l.length := by omega
      subst hkl
      rw [List.take_length] at hW
      go_wp2_with fail
      go_end0
      exact ⟨rfl, v1, hW, hS⟩

/-- num, of one number, in a new slice. -/
theorem mnum_one (g : Nat) (v : Value) (s : WS) (n : Int) (w : World) (hs : s.1.length ≤ 10000000000000) (h : Wr 59 w g v s) :
    Calls Tryd.prog 23 #[.pointer (some ⟨g, 0, none⟩), .slice (some ⟨w.heap.size, 0, none⟩) 1 1] (w.alloc (.cells #[.int .i64 n] 3)) fun e w' => e = .returned (.tuple #[]) ∧ ∃ v', Wr 59 w' g v' (numsW s [n]) ∧ Step g w w' v v' := by
  refine (mnum_any g w.heap.size v s [n] (w.alloc (.cells #[.int .i64 n] 3)) (by simp) hs (h.alloc _) (Box.new w [.int .i64 n] 3) (by have := h.lt; omega) (fun e => by have := h.own.lt _ e; omega)).mono ?_
  rintro e w' ⟨rfl, v', hW, hS⟩
  exact ⟨rfl, v', hW, hS.pre ((Chg.refl Nil w).alloc _)⟩

set_option maxRecDepth 100000 in
theorem mtruth_any (g : Nat) (v : Value) (s : WS) (b : Bool) (w : World) (hs : s.1.length ≤ 10000000000000) (h : Wr 59 w g v s) :
    Calls Tryd.prog 25 #[.pointer (some ⟨g, 0, none⟩), .bool b] w fun e w' => e = .returned (.tuple #[]) ∧ ∃ v', Wr 59 w' g v' (truthW s b) ∧ Step g w w' v v' := by
  have h1 := Lib.hid (mnum_one g v s 1 w hs h)
  have h0 := Lib.hid (mnum_one g v s 0 w hs h)
  clear h
  go_enter Tryd.func25, Tryd.ntmps25
  cases b
  · go_wp2_with fail
    refine h0.out.mono ?_
    rintro e w1 ⟨rfl, v1, hW, hS⟩
    go_wp2_with fail
    go_end0
    exact ⟨rfl, v1, hW, hS⟩
  · go_wp2_with fail
    refine h1.out.mono ?_
    rintro e w1 ⟨rfl, v1, hW, hS⟩
    go_wp2_with fail
    ((try simp only [Exit.inBlock, Exit.then]); refine bodyPost_ret (results_none rfl _ _ _) rfl ?_)
    exact ⟨rfl, v1, hW, hS⟩

set_option maxHeartbeats 1000000 in
set_option maxRecDepth 100000 in
theorem mtext_any (g : Nat) (v : Value) (s : WS) (t : ByteArray) (most : Nat) (w : World) (ht : t.size ≤ 1048576) (hs : s.1.length ≤ 10000000000000) (h : Wr 59 w g v s) :
    Calls Tryd.prog 24 #[.pointer (some ⟨g, 0, none⟩), .string t, .int .i64 (most : Nat)] w fun e w' => e = .returned (.tuple #[]) ∧ ∃ v', Wr 59 w' g v' (textW s t most) ∧ Step g w w' v v' := by
  have HT : Hid (textW s t most = ((numsW (s.1, if most < t.size then 4 else s.2) [(t.size : Int)]).1 ++ t.data.toList, (numsW (s.1, if most < t.size then 4 else s.2) [(t.size : Int)]).2)) := rfl
  have hsl : t.data.toList.length = t.size := by rw [Array.length_toList]; rfl
  have HSL := Lib.hid hsl
  clear hsl
  -- the end, behind the number
  have fin : ∀ (s1 : WS) (v1 : Value) (w1 : World), s1.1.length ≤ 20000000000000 → Wr 59 w1 g v1 s1 → s1.1.length + t.data.toList.length ≤ 140737488355328 ∧ Source Tryd.prog w1 1 (.string t) t.data.toList.length (t.data.toList.map bval) := fun s1 v1 w1 h1 _ =>
    ⟨by rw [HSL.out]; omega, Source.string t⟩
  have FIN := Lib.hid fin
  clear fin
  by_cases hb : most < t.size
  · have hbi : (most : Int) < (t.size : Int) := by omega
    have f1 := h.box.free 1
    have hset : Chg (fun k => k = g) w (w.setCell ⟨g, 1, none⟩ (.int .i64 4)) := (Chg.refl (fun k => k = g) _).setCell (.inl rfl) _
    have hW0 : Wr 59 (w.setCell ⟨g, 1, none⟩ (.int .i64 4)) g v (s.1, 4) := ⟨h.box.set 1 _, h.own.chg hset (fun k hk e => h.ne (by rw [hk, e])), h.ne⟩
    have hS0 : Step g w (w.setCell ⟨g, 1, none⟩ (.int .i64 4)) v v := ⟨hset.weak (fun i hi => .inl (.inl hi)), fun _ h => .inl h⟩
    have b1 := h.box.cell (j := 1) rfl
    have hw1 := mnum_one g v (s.1, 4) (t.size : Int) _ hs hW0
    have hz1 : (w.setCell ⟨g, 1, none⟩ (.int .i64 4)).heap.size = w.heap.size := by simp
    rw [hz1] at hw1
    have HW := Lib.hid hw1
    clear hw1 hz1
    have HS0 := Lib.hid hS0
    rw [if_pos hb] at HT
    clear hset hW0 hS0 h
    go_enter Tryd.func24, Tryd.ntmps24
    go_wp2_with fail
    refine HW.out.mono ?_
    rintro e w1 ⟨rfl, v1, hW1, hS1⟩
    have hln := numsW_len (s.1, 4) [(t.size : Int)]
    simp only [List.length_cons, List.length_nil] at hln
    generalize numsW (s.1, 4) [(t.size : Int)] = s1 at *
    obtain ⟨hq, hsrc⟩ := FIN.out s1 v1 w1 (by omega) hW1
    have HQ := Lib.hid hq
    have HSR := Lib.hid hsrc
    have HO := Lib.hid hW1.own
    have HBX := Lib.hid hW1.box
    have HNE := Lib.hid hW1.ne
    have c0 := hW1.box.cell (j := 0) rfl
    clear hq hsrc hW1 b1 f1
    go_wp2_with (at_builtin; go_must (refine wpList_append_bytes rfl (.tmp 22) (.tmp 23) 25 9 rfl bytesT _ Tryd.underlying9 (by intro _; simp) _ _ rfl HO.out _ t.data.toList rfl HSR.out HQ.out ?_); intro v2 w2 hown2 hg2 _; obtain ⟨x2, m2, c2, rfl⟩ := ownsRow_form hown2; have hBX2 := HBX.out.chg hg2.chg (fun h => HNE.out h); have y2 := hBX2.free 0; have z2 := hBX2.cell (j := 0) rfl; have HO2 := Lib.hid hown2; have HB2 := Lib.hid hBX2; clear hown2 hBX2)
    go_wp2
    go_end0
    have hgl : g < w1.heap.size := (Array.getElem?_eq_some_iff.1 HBX.out).1
    have hne2 : (Value.slice x2 m2 c2).ownBlock ≠ some g := fun e => (hg2.own g e).elim HNE.out fun l => by omega
    have hs2 : Chg (fun k => k = g) w2 (w2.setCell ⟨g, 0, none⟩ (.slice x2 m2 c2)) := (Chg.refl (fun k => k = g) _).setCell (.inl rfl) _
    refine ⟨rfl, .slice x2 m2 c2, ?_, (HS0.out.trans hS1).trans ⟨(hg2.chg.weak (fun i hi => .inl (.inr hi))).trans hs2 (fun i hi => .inl (.inl hi)), hg2.own⟩⟩
    rw [HT.out]
    exact ⟨HB2.out.set 0 _, HO2.out.chg hs2 (fun k hk e => hne2 (by rw [hk, e])), hne2⟩
  · have hbi : ¬ (most : Int) < (t.size : Int) := by omega
    have HW := Lib.hid (mnum_one g v s (t.size : Int) w hs h)
    rw [if_neg hb] at HT
    have e : (s.1, s.2) = s := rfl
    rw [e] at HT
    clear h e
    go_enter Tryd.func24, Tryd.ntmps24
    go_wp2_with fail
    refine HW.out.mono ?_
    rintro e w1 ⟨rfl, v1, hW1, hS1⟩
    have hln := numsW_len s [(t.size : Int)]
    simp only [List.length_cons, List.length_nil] at hln
    generalize numsW s [(t.size : Int)] = s1 at *
    obtain ⟨hq, hsrc⟩ := FIN.out s1 v1 w1 (by omega) hW1
    have HQ := Lib.hid hq
    have HSR := Lib.hid hsrc
    have HO := Lib.hid hW1.own
    have HBX := Lib.hid hW1.box
    have HNE := Lib.hid hW1.ne
    have c0 := hW1.box.cell (j := 0) rfl
    clear hq hsrc hW1
    go_wp2_with (at_builtin; go_must (refine wpList_append_bytes rfl (.tmp 22) (.tmp 23) 25 9 rfl bytesT _ Tryd.underlying9 (by intro _; simp) _ _ rfl HO.out _ t.data.toList rfl HSR.out HQ.out ?_); intro v2 w2 hown2 hg2 _; obtain ⟨x2, m2, c2, rfl⟩ := ownsRow_form hown2; have hBX2 := HBX.out.chg hg2.chg (fun h => HNE.out h); have y2 := hBX2.free 0; have z2 := hBX2.cell (j := 0) rfl; have HO2 := Lib.hid hown2; have HB2 := Lib.hid hBX2; clear hown2 hBX2)
    go_wp2
    go_end0
    have hgl : g < w1.heap.size := (Array.getElem?_eq_some_iff.1 HBX.out).1
    have hne2 : (Value.slice x2 m2 c2).ownBlock ≠ some g := fun e => (hg2.own g e).elim HNE.out fun l => by omega
    have hs2 : Chg (fun k => k = g) w2 (w2.setCell ⟨g, 0, none⟩ (.slice x2 m2 c2)) := (Chg.refl (fun k => k = g) _).setCell (.inl rfl) _
    refine ⟨rfl, .slice x2 m2 c2, ?_, hS1.trans ⟨(hg2.chg.weak (fun i hi => .inl (.inr hi))).trans hs2 (fun i hi => .inl (.inl hi)), hg2.own⟩⟩
    rw [HT.out]
    exact ⟨HB2.out.set 0 _, HO2.out.chg hs2 (fun k hk e => hne2 (by rw [hk, e])), hne2⟩
end Go.Proofs.YtmklicodfiggnaaDoor
