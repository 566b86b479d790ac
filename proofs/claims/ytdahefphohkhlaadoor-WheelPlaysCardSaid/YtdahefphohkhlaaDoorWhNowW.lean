/-
  The walks of Many and put.
-/
import Derived.Test.YtdahefphohkhlaaDoorWhM
import Derived.Outline
import Derived.Deep.DeepCutAuto
import Derived.Deep.QuietTactic
import Derived.BigQuiet
set_option linter.unusedSimpArgs false
set_option linter.unusedVariables false
namespace Go.Proofs.YtdahefphohkhlaaDoor
open Go.RowKit Go.Maps

set_option maxRecDepth 100000 in
theorem many_any {w : World} {p : Nat} {s : Wh} {ids : List Int} {added : Nat} {sv : Nat → Value} {mb : Option Nat} (h : Wl w p s ids added sv mb) :
    Calls Tryd.prog 11 #[.pointer (some ⟨p, 0, none⟩)] w fun e w' => e = .returned (.int .i64 (ids.length : Nat)) ∧ w' = w := by
  have cm := h.cm
  have hlen := h.ids.len
  clear h
  go_enter Tryd.func11, Tryd.ntmps11
  go_wp2
  go_ret
  exact ⟨rfl, rfl⟩

theorem pow64 (k : Nat) : (2 : Int) ^ (6 * k) = ((64 ^ k : Nat) : Int) := by
  rw [show (64 : Nat) = 2 ^ 6 from rfl, ← Nat.pow_mul]
  simp
theorem shr64 (a k : Nat) : (a : Int) / 2 ^ (6 * k) = ((a / 64 ^ k : Nat) : Int) := by rw [pow64]; simp
theorem shr_eq (a b k : Nat) : ((a : Int) / 2 ^ (6 * k) == (b : Int) / 2 ^ (6 * k)) = decide (a / 64 ^ k = b / 64 ^ k) := by
  rw [shr64, shr64]
  by_cases h : a / 64 ^ k = b / 64 ^ k
  · rw [h]; simp
  · have : ¬ ((a / 64 ^ k : Nat) : Int) = ((b / 64 ^ k : Nat) : Int) := by omega
    simp only [h, decide_false]
    exact beq_eq_false_iff_ne.2 this

/-- What the operations of an append of a timer leave, one by one. -/
def AppF (n0 : Nat) (u : Value) (l : List Tm) (t : Tm) : List Value → World → Prop
  | [], w => OwnTm w u l
  | [v], w => OwnTm w u l ∧ ∃ q, v = .slice (some ⟨q, 0, none⟩) 1 1 ∧ Box w q t.cells 51
  | [_, v], w => OwnTm w v (l ++ [t]) ∧ ∀ k, v.ownBlock = some k → u.ownBlock = some k ∨ n0 ≤ k
  | _, _ => False
/-- What putting a timer leaves. -/
def PutPost (w : World) (p : Nat) (s : Wh) (ids : List Int) (added : Nat) (sv : Nat → Value) (mb : Option Nat) (w' : World) : Prop :=
  ∃ sv', Wl w' p s ids added sv' mb ∧ Chg (Has p sv mb) w w' ∧ ∀ i, Has p sv' mb i → Has p sv mb i ∨ w.heap.size ≤ i

set_option maxHeartbeats 1000000 in
set_option maxRecDepth 100000 in
theorem put_any {w : World} {p : Nat} {s : Wh} {ids : List Int} {added : Nat} {sv : Nat → Value} {mb : Option Nat} (h : Wl w p s ids added sv mb) (t : Tm) (hml : ∀ j, j < 449 → (s.sl j).length ≤ 1000000) :
    Calls Tryd.prog 13 #[.pointer (some ⟨p, 0, none⟩), .agg #[.int .i64 (t.at' : Nat), .int .i64 t.id, .int .i64 (t.num : Nat)]] w fun e w' => e = .returned (.tuple #[]) ∧ PutPost w p (putS s t) ids added sv mb w' := by
  have hx := Box.new w [.int .i64 (t.at' : Nat), .int .i64 t.id, .int .i64 (t.num : Nat)] 51
  have hal := (Chg.refl Nil w).alloc (.cells #[.int .i64 (t.at' : Nat), .int .i64 t.id, .int .i64 (t.num : Nat)] 51)
  have h0 := h.chg hal (fun _ _ h => h)
  have hlt := h.lt p (.inl rfl)
  have hgp : w.heap.size ≠ p := by omega
  have HG := Lib.hid hgp
  have HLT := Lib.hid (fun i hi => h.lt i hi)
  have c0 := h0.c0
  have HW := Lib.hid h0
  have HX := Lib.hid hx
  have x0 := hx.cell (j := 0) rfl
  have x1 := hx.cell (j := 1) rfl
  have x2 := hx.cell (j := 2) rfl
  have HAL := Lib.hid hal
  clear h h0 hx hgp hal
  go_enter Tryd.func13, Tryd.ntmps13
  go_upto_region 1 with fail
  generalize w.alloc (.cells #[.int .i64 (t.at' : Nat), .int .i64 t.id, .int .i64 (t.num : Nat)] 51) = w0 at *
  generalize w.heap.size = g at *
  by_cases hd : t.at' ≤ s.now
  · have hdi : (t.at' : Int) ≤ (s.now : Int) := by omega
    go_quiet (fail)
    go_upto_region 2 with fail
    have hcw : Chg Nil w0 (w0.drewN nq) := (Chg.refl Nil w0).drewN nq
    generalize w0.drewN nq = w1 at *
    have x0 := hcw.cell x0 (fun h => h)
    have x1 := hcw.cell x1 (fun h => h)
    have x2 := hcw.cell x2 (fun h => h)
    have HML := Lib.hid hml
    clear hml
    have HW1 := Lib.hid (HW.out.chg (S := Nil) hcw (fun _ _ h => h))
    have hj : (448) < 449 := by omega
    have HJ := Lib.hid hj
    have HOW := Lib.hid (HW1.out.own _ hj)
    have hcj := HW1.out.cs _ hj
    have HNE := Lib.hid (HW1.out.ne _ hj)
    have HPL := Lib.hid (HW1.out.lt p (.inl rfl))
    have HNG : Hid (¬ (sv (448)).ownBlock = some g) := fun e => by have := HLT.out g (.inr (.inr ⟨_, hj, e⟩)); omega
    obtain ⟨n0, hn0⟩ : ∃ n, n = w1.heap.size := ⟨_, rfl⟩
    have HN0 := Lib.hid hn0
    have HZ0 := Lib.hid (hcw.size)
    have HCW := Lib.hid hcw
    clear hn0 hcw hj
    refine Ch.wp_region_last2 _ _ rfl (Chg (fun i => (sv (448)).ownBlock = some i)) [6, 7] (AppF n0 (sv (448)) (s.sl (448)) t) (by kernel_rfl) (fun _ => Chg.refl _ _) (fun _ _ _ h k => h.trans k (fun _ h => .inl h)) [[], [], [1], [2], [3], [], [5], [4, 6], [0], [8]] rfl (by kernel_rfl) (by kernel_rfl) (by kernel_rfl) (Chg.refl _ _).drew ?_ ?_
    · exact HOW.out.chg (Chg.refl Nil _).drew (fun _ _ h => h)
    simp only [List.dropLast_cons_cons, List.dropLast_singleton]
    iterate 4 ((with_reducible apply Ch.Walk.eq); (case hd => rfl); (case hi => rfl); case h => (intro w2 hw2 N hN; simp only [Ch.depsOf, List.filterMap_nil, List.filterMap_cons, List.getElem?_toArray, List.getElem?_cons_zero, List.getElem?_cons_succ, Option.bind_some, List.nil_append, List.cons_append, Ch.Ob]; go_simp; (try go_bits); with_reducible exact hN _ (Chg.refl _ _) (fun _ h => h)))
    ((with_reducible apply Ch.Walk.eq); (case hd => rfl); (case hi => rfl); case h => (intro w2 hw2 N hN; (have hq := hw2.cell hcj (fun e => HNE.out e)); simp only [Ch.depsOf, List.filterMap_nil, List.filterMap_cons, List.getElem?_toArray, List.getElem?_cons_zero, List.getElem?_cons_succ, Option.bind_some, List.nil_append, List.cons_append, Ch.Ob]; go_simp; (try go_bits); with_reducible exact hN _ (Chg.refl _ _) (fun _ h => h)))
    ((with_reducible apply Ch.Walk.eq); (case hd => rfl); (case hi => rfl); case h => (intro w2 hw2 N hN; (have hx0 := hw2.cell x0 (fun e => HNG.out e); have hx1 := hw2.cell x1 (fun e => HNG.out e); have hx2 := hw2.cell x2 (fun e => HNG.out e)); simp only [Ch.depsOf, List.filterMap_nil, List.filterMap_cons, List.getElem?_toArray, List.getElem?_cons_zero, List.getElem?_cons_succ, Option.bind_some, List.nil_append, List.cons_append, Ch.Ob]; go_simp; (try go_bits); with_reducible exact hN _ (Chg.refl _ _) (fun _ h => h)))
    refine Ch.Walk.chain 0 rfl rfl ?_ ?_
    · intro w3 hw3 vs hvs hF N hN
      obtain rfl := List.eq_nil_of_length_eq_zero hvs
      simp only [Ch.depsOf, List.filterMap_nil, List.filterMap_cons, List.getElem?_toArray, List.getElem?_cons_zero, List.getElem?_cons_succ, Option.bind_some, List.nil_append, List.cons_append, Ch.Ob, Ch.chained_get, Option.map_some, List.idxOf?, List.findIdx?, List.findIdx?.go, Nat.reduceBEq, List.getD_cons_zero, List.getD_cons_succ, Nat.reduceAdd, if_true, if_false, Bool.false_eq_true]
      go_simp
      have hal := (Chg.refl Nil w3).alloc (.cells #[.int .i64 (t.at' : Nat), .int .i64 t.id, .int .i64 (t.num : Nat)] 51)
      exact hN _ _ (hal.weak (fun _ h => h.elim)) ⟨OwnTm.chg hF hal (fun _ _ h => h), w3.heap.size, rfl, Box.new w3 t.cells _⟩
    refine Ch.Walk.chain 1 rfl rfl ?_ ?_
    · intro w3 hw3 vs hvs hF N hN
      obtain ⟨v1, rfl⟩ := List.length_eq_one_iff.1 hvs
      simp only [Ch.depsOf, List.filterMap_nil, List.filterMap_cons, List.getElem?_toArray, List.getElem?_cons_zero, List.getElem?_cons_succ, Option.bind_some, List.nil_append, List.cons_append, Ch.Ob, Ch.chained_get, Option.map_some, List.idxOf?, List.findIdx?, List.findIdx?.go, Nat.reduceBEq, List.getD_cons_zero, List.getD_cons_succ, Nat.reduceAdd, if_true, if_false, Bool.false_eq_true]
      obtain ⟨f1, q, rfl, f3⟩ := hF
      have hz3 := hw3.size
      refine Ch.if_append_row rfl (.tmp 17) (.tmp 19) 23 23 rfl tmsT _ Tryd.underlying23 (by intro _; simp) (sv (448)) (s.sl (448)).length ((s.sl (448)).flatMap Tm.cells) rfl f1 (.slice (some ⟨q, 0, none⟩) 1 1) 1 t.cells rfl (Source.box f3 rfl (Tm.cells_one _)) (by have := HML.out _ HJ.out; unfold maxLen; omega) (by have := HML.out _ HJ.out; omega) (fun v' w' h1 h2 => hN _ _ h2.chg ?_)
      refine ⟨?_, fun k hk => (h2.own k hk).imp id fun h => ?_⟩
      · unfold OwnTm
        rw [List.length_append, List.flatMap_append]
        simpa using h1
      · rw [HN0.out]; exact Nat.le_trans hz3 h
    iterate 2 ((with_reducible apply Ch.Walk.eq); (case hd => rfl); (case hi => rfl); case h => (intro w2 hw2 N hN; simp only [Ch.depsOf, List.filterMap_nil, List.filterMap_cons, List.getElem?_toArray, List.getElem?_cons_zero, List.getElem?_cons_succ, Option.bind_some, List.nil_append, List.cons_append, Ch.Ob]; go_simp; (try go_bits); with_reducible exact hN _ (Chg.refl _ _) (fun _ h => h)))
    intro w6 hw6
    simp only [List.nil_append, List.cons_append, Ch.Fin, List.map_cons, List.map_nil, List.getD_cons_zero, List.getD_cons_succ]
    intro v5 _ v6 _ hF
    have f1 : OwnTm w6 v6 (s.sl (448) ++ [t]) := hF.1
    have f2 : ∀ k, v6.ownBlock = some k → (sv (448)).ownBlock = some k ∨ n0 ≤ k := hF.2
    clear hF
    have hv2 := form_eq (ownsRow_form f1)
    generalize vA v6 = x2 at hv2
    generalize vN v6 = m2 at hv2
    generalize vC v6 = c2 at hv2
    subst hv2
    simp only [Ch.Then, Oper.wp]
    have hcp := hw6.cell (HW1.out.cs _ HJ.out) (HW1.out.ne _ HJ.out)
    have hcf := (hw6.frozen (a := ⟨p, 1 + (448), none⟩) HPL.out (HW1.out.ne _ HJ.out)).trans (HW1.out.fr (1 + (448)))
    have hrow := HW1.out.row HJ.out hw6 f1 (fun b hb => (f2 b hb).imp id fun h => by rw [HN0.out] at h; exact h)
    have hhas := Wl.row_has (p := p) (mb := mb) (w := w1) HJ.out (v' := .slice x2 m2 c2) (fun b hb => (f2 b hb).imp id fun h => by rw [HN0.out] at h; exact h)
    have HRW := Lib.hid hrow
    have HHS := Lib.hid hhas
    have HC6 := Lib.hid hw6
    clear f1 f2 hrow hhas hw6
    go_simp
    go_wp2_with fail
    refine bodyPost_ret (results_none rfl _ _ _) rfl ?_
    have hsp : spot s.now t.at' = 448 := by unfold spot; rw [if_pos hd]
    refine ⟨rfl, upd sv (448) (.slice x2 m2 c2), ?_, ?_, fun i hi => ?_⟩
    · unfold putS
      rw [hsp]
      exact HRW.out
    · exact (((HAL.out.trans HCW.out (fun _ h => .inl h)).weak (S' := Has p sv mb) (fun _ h => h.elim)).trans HC6.out (fun i h => .inl (.inr (.inr ⟨_, HJ.out, h⟩)))).trans (setCell_chg _ p _ _) (fun i h => .inl (.inl h))
    · rcases HHS.out i hi with h | h
      · exact .inl h
      · exact .inr (by have := HAL.out.size; have := HZ0.out; omega)
  · have hdi : ¬ (t.at' : Int) ≤ (s.now : Int) := by omega
    go_quiet (fail)
    go_wp2_with fail
    go_loopw [4] (fun i wr => ∃ k : Nat, k ≤ 6 ∧ i = .int .i64 k ∧ Chg Nil w0 wr ∧ Hid (lvl s.now t.at' = lvlFrom s.now t.at' k)) (fun i _ => (RowKit.intOf i).toNat)
    case atStart => exact ⟨6, by omega, rfl, (Chg.refl _ _).drewN _, rfl⟩
    case round =>
      rename_i i wr
      obtain ⟨k, hk, rfl, hc, HK⟩ := hrel
      have c0 := hc.cell c0 (fun h => h)
      have x0 := hc.cell x0 (fun h => h)
      go_upto_region 4 with fail
      go_cut [39] (fun b wy => b = .bool (decide (k ≠ 0 ∧ t.at' / 64 ^ k = s.now / 64 ^ k)) ∧ Chg Nil w0 wy)
      case first =>
        by_cases hk0 : k = 0
        · subst hk0
          have hdk : decide ((0 : Int) < (0 : Int)) = false := by simp
          go_quiet (fail)
          go_wp2_with fail
          go_meet
          case rel => exact ⟨by simp, hc.drewN _⟩
        · have hdk : 0 < k := by omega
          go_quiet (fail)
          go_wp2_with fail
          go_meet
          case rel =>
            refine ⟨?_, hc.drewN _⟩
            rw [shr_eq]
            simp [hk0]
      obtain ⟨rfl, hc2⟩ := hcut
      clear c0 x0
      by_cases hgo : k ≠ 0 ∧ t.at' / 64 ^ k = s.now / 64 ^ k
      · have hgb : decide (k ≠ 0 ∧ t.at' / 64 ^ k = s.now / 64 ^ k) = true := by simp [hgo]
        go_wp2_with fail
        go_roundw
        case rel =>
          refine ⟨k - 1, by omega, by go_num, hc2, ?_⟩
          unfold Hid
          rw [HK.out]
          obtain ⟨k', rfl⟩ : ∃ k', k = k' + 1 := ⟨k - 1, by omega⟩
          show lvlFrom _ _ (k' + 1) = lvlFrom _ _ k'
          rw [lvlFrom, if_pos hgo.2]
        case measure => simp [RowKit.intOf]; omega
      · have hgb : decide (k ≠ 0 ∧ t.at' / 64 ^ k = s.now / 64 ^ k) = false := by simp only [decide_eq_false_iff_not]; exact hgo
        have HKL : Hid (lvl s.now t.at' = k) := by
          unfold Hid
          rw [HK.out]
          cases k with
          | zero => rfl
          | succ k => rw [lvlFrom, if_neg (fun e => hgo ⟨by omega, e⟩)]
        clear HK
        go_upto_region 6 with fail
        clear hgb hgo
        have c0 := hc2.cell c0 (fun h => h)
        have x0 := hc2.cell x0 (fun h => h)
        have x1 := hc2.cell x1 (fun h => h)
        have x2 := hc2.cell x2 (fun h => h)
        have hk7 : (k : Int) < 7 := by omega
        have hm0 : (0 : Int) ≤ (t.at' : Int) / 2 ^ (6 * k) := by rw [shr64]; exact Int.natCast_nonneg _
        go_quiet (fail)
        go_upto_region 7 with fail
        have hcd : Chg Nil wc (wc.drewN nq) := (Chg.refl Nil wc).drewN nq
        have hcw : Chg Nil w0 (wc.drewN nq) := hc2.drewN nq
        have ho : 1 + k * 64 + ((t.at' : Int) / 2 ^ (6 * k) % 64).toNat = 1 + (64 * k + t.at' / 64 ^ k % 64) := by rw [shr64]; omega
        rw [ho]
        generalize wc.drewN nq = w1 at *
        have x0 := hcd.cell x0 (fun h => h)
        have x1 := hcd.cell x1 (fun h => h)
        have x2 := hcd.cell x2 (fun h => h)
        clear ho hcd hc hc2 c0
        have HML := Lib.hid hml
        clear hml
        have HW1 := Lib.hid (HW.out.chg (S := Nil) hcw (fun _ _ h => h))
        have hj : (64 * k + t.at' / 64 ^ k % 64) < 449 := by have := Nat.mod_lt (t.at' / 64 ^ k) (show 0 < 64 by omega); omega
        have HJ := Lib.hid hj
        have HOW := Lib.hid (HW1.out.own _ hj)
        have hcj := HW1.out.cs _ hj
        have HNE := Lib.hid (HW1.out.ne _ hj)
        have HPL := Lib.hid (HW1.out.lt p (.inl rfl))
        have HNG : Hid (¬ (sv (64 * k + t.at' / 64 ^ k % 64)).ownBlock = some g) := fun e => by have := HLT.out g (.inr (.inr ⟨_, hj, e⟩)); omega
        obtain ⟨n0, hn0⟩ : ∃ n, n = w1.heap.size := ⟨_, rfl⟩
        have HN0 := Lib.hid hn0
        have HZ0 := Lib.hid (hcw.size)
        have HCW := Lib.hid hcw
        clear hn0 hcw hj
        refine Ch.wp_region_last2 _ _ rfl (Chg (fun i => (sv (64 * k + t.at' / 64 ^ k % 64)).ownBlock = some i)) [5, 6] (AppF n0 (sv (64 * k + t.at' / 64 ^ k % 64)) (s.sl (64 * k + t.at' / 64 ^ k % 64)) t) (by kernel_rfl) (fun _ => Chg.refl _ _) (fun _ _ _ h k => h.trans k (fun _ h => .inl h)) [[], [], [1], [2], [], [4], [3, 5], [0]] rfl (by kernel_rfl) (by kernel_rfl) (by kernel_rfl) (Chg.refl _ _).drew ?_ ?_
        · exact HOW.out.chg (Chg.refl Nil _).drew (fun _ _ h => h)
        simp only [List.dropLast_cons_cons, List.dropLast_singleton]
        iterate 3 ((with_reducible apply Ch.Walk.eq); (case hd => rfl); (case hi => rfl); case h => (intro w2 hw2 N hN; simp only [Ch.depsOf, List.filterMap_nil, List.filterMap_cons, List.getElem?_toArray, List.getElem?_cons_zero, List.getElem?_cons_succ, Option.bind_some, List.nil_append, List.cons_append, Ch.Ob]; go_simp; (try go_bits); with_reducible exact hN _ (Chg.refl _ _) (fun _ h => h)))
        ((with_reducible apply Ch.Walk.eq); (case hd => rfl); (case hi => rfl); case h => (intro w2 hw2 N hN; (have hq := hw2.cell hcj (fun e => HNE.out e)); simp only [Ch.depsOf, List.filterMap_nil, List.filterMap_cons, List.getElem?_toArray, List.getElem?_cons_zero, List.getElem?_cons_succ, Option.bind_some, List.nil_append, List.cons_append, Ch.Ob]; go_simp; (try go_bits); with_reducible exact hN _ (Chg.refl _ _) (fun _ h => h)))
        ((with_reducible apply Ch.Walk.eq); (case hd => rfl); (case hi => rfl); case h => (intro w2 hw2 N hN; (have hx0 := hw2.cell x0 (fun e => HNG.out e); have hx1 := hw2.cell x1 (fun e => HNG.out e); have hx2 := hw2.cell x2 (fun e => HNG.out e)); simp only [Ch.depsOf, List.filterMap_nil, List.filterMap_cons, List.getElem?_toArray, List.getElem?_cons_zero, List.getElem?_cons_succ, Option.bind_some, List.nil_append, List.cons_append, Ch.Ob]; go_simp; (try go_bits); with_reducible exact hN _ (Chg.refl _ _) (fun _ h => h)))
        refine Ch.Walk.chain 0 rfl rfl ?_ ?_
        · intro w3 hw3 vs hvs hF N hN
          obtain rfl := List.eq_nil_of_length_eq_zero hvs
          simp only [Ch.depsOf, List.filterMap_nil, List.filterMap_cons, List.getElem?_toArray, List.getElem?_cons_zero, List.getElem?_cons_succ, Option.bind_some, List.nil_append, List.cons_append, Ch.Ob, Ch.chained_get, Option.map_some, List.idxOf?, List.findIdx?, List.findIdx?.go, Nat.reduceBEq, List.getD_cons_zero, List.getD_cons_succ, Nat.reduceAdd, if_true, if_false, Bool.false_eq_true]
          go_simp
          have hal := (Chg.refl Nil w3).alloc (.cells #[.int .i64 (t.at' : Nat), .int .i64 t.id, .int .i64 (t.num : Nat)] 51)
          exact hN _ _ (hal.weak (fun _ h => h.elim)) ⟨OwnTm.chg hF hal (fun _ _ h => h), w3.heap.size, rfl, Box.new w3 t.cells _⟩
        refine Ch.Walk.chain 1 rfl rfl ?_ ?_
        · intro w3 hw3 vs hvs hF N hN
          obtain ⟨v1, rfl⟩ := List.length_eq_one_iff.1 hvs
          simp only [Ch.depsOf, List.filterMap_nil, List.filterMap_cons, List.getElem?_toArray, List.getElem?_cons_zero, List.getElem?_cons_succ, Option.bind_some, List.nil_append, List.cons_append, Ch.Ob, Ch.chained_get, Option.map_some, List.idxOf?, List.findIdx?, List.findIdx?.go, Nat.reduceBEq, List.getD_cons_zero, List.getD_cons_succ, Nat.reduceAdd, if_true, if_false, Bool.false_eq_true]
          obtain ⟨f1, q, rfl, f3⟩ := hF
          have hz3 := hw3.size
          refine Ch.if_append_row rfl (.tmp 57) (.tmp 59) 23 23 rfl tmsT _ Tryd.underlying23 (by intro _; simp) (sv (64 * k + t.at' / 64 ^ k % 64)) (s.sl (64 * k + t.at' / 64 ^ k % 64)).length ((s.sl (64 * k + t.at' / 64 ^ k % 64)).flatMap Tm.cells) rfl f1 (.slice (some ⟨q, 0, none⟩) 1 1) 1 t.cells rfl (Source.box f3 rfl (Tm.cells_one _)) (by have := HML.out _ HJ.out; unfold maxLen; omega) (by have := HML.out _ HJ.out; omega) (fun v' w' h1 h2 => hN _ _ h2.chg ?_)
          refine ⟨?_, fun k hk => (h2.own k hk).imp id fun h => ?_⟩
          · unfold OwnTm
            rw [List.length_append, List.flatMap_append]
            simpa using h1
          · rw [HN0.out]; exact Nat.le_trans hz3 h
        ((with_reducible apply Ch.Walk.eq); (case hd => rfl); (case hi => rfl); case h => (intro w2 hw2 N hN; simp only [Ch.depsOf, List.filterMap_nil, List.filterMap_cons, List.getElem?_toArray, List.getElem?_cons_zero, List.getElem?_cons_succ, Option.bind_some, List.nil_append, List.cons_append, Ch.Ob]; go_simp; (try go_bits); with_reducible exact hN _ (Chg.refl _ _) (fun _ h => h)))
        intro w6 hw6
        simp only [List.nil_append, List.cons_append, Ch.Fin, List.map_cons, List.map_nil, List.getD_cons_zero, List.getD_cons_succ]
        intro v5 _ v6 _ hF
        have f1 : OwnTm w6 v6 (s.sl (64 * k + t.at' / 64 ^ k % 64) ++ [t]) := hF.1
        have f2 : ∀ b, v6.ownBlock = some b → (sv (64 * k + t.at' / 64 ^ k % 64)).ownBlock = some b ∨ n0 ≤ b := hF.2
        clear hF
        have hv2 := form_eq (ownsRow_form f1)
        generalize vA v6 = x2 at hv2
        generalize vN v6 = m2 at hv2
        generalize vC v6 = c2 at hv2
        subst hv2
        simp only [Ch.Then, Oper.wp]
        have hcp := hw6.cell (HW1.out.cs _ HJ.out) (HW1.out.ne _ HJ.out)
        have hcf := (hw6.frozen (a := ⟨p, 1 + (64 * k + t.at' / 64 ^ k % 64), none⟩) HPL.out (HW1.out.ne _ HJ.out)).trans (HW1.out.fr (1 + (64 * k + t.at' / 64 ^ k % 64)))
        have hrow := HW1.out.row HJ.out hw6 f1 (fun b hb => (f2 b hb).imp id fun h => by rw [HN0.out] at h; exact h)
        have hhas := Wl.row_has (p := p) (mb := mb) (w := w1) HJ.out (v' := .slice x2 m2 c2) (fun b hb => (f2 b hb).imp id fun h => by rw [HN0.out] at h; exact h)
        have HRW := Lib.hid hrow
        have HHS := Lib.hid hhas
        have HC6 := Lib.hid hw6
        clear f1 f2 hrow hhas hw6
        go_simp
        go_wp2_with fail
        go_end0
        have hsp : spot s.now t.at' = 64 * k + t.at' / 64 ^ k % 64 := by unfold spot; rw [if_neg hd, HKL.out]
        refine ⟨rfl, upd sv (64 * k + t.at' / 64 ^ k % 64) (.slice x2 m2 c2), ?_, ?_, fun i hi => ?_⟩
        · unfold putS
          rw [hsp]
          exact HRW.out
        · exact (((HAL.out.trans HCW.out (fun _ h => .inl h)).weak (S' := Has p sv mb) (fun _ h => h.elim)).trans HC6.out (fun i h => .inl (.inr (.inr ⟨_, HJ.out, h⟩)))).trans (setCell_chg _ p _ _) (fun i h => .inl (.inl h))
        · rcases HHS.out i hi with h | h
          · exact .inl h
          · exact .inr (by have := HAL.out.size; have := HZ0.out; omega)
end Go.Proofs.YtdahefphohkhlaaDoor
