/-
  The walk of Cancel.
-/
import Derived.Test.YtdahefphohkhlaaDoorWhDelW
import Derived.Test.YtdahefphohkhlaaDoorWhNowW
import Derived.Deep.CutBlock
set_option linter.unusedSimpArgs false
set_option linter.unusedVariables false
namespace Go.Proofs.YtdahefphohkhlaaDoor
open Go.RowKit Go.Maps

/-- The first m rows, and what is due, without those of an id. -/
def cutS (s : Wh) (x : Int) (m : Nat) : Wh := { s with sl := fun j => if j = 448 ∨ j < m then (s.sl j).filter (stays x) else s.sl j }
theorem cutS_now (s : Wh) (x : Int) (m : Nat) : (cutS s x m).now = s.now := rfl
theorem cutS_zero (s : Wh) (x : Int) : ({ s with sl := upd s.sl 448 ((s.sl 448).filter (stays x)) } : Wh) = cutS s x 0 := by
  unfold cutS upd
  congr 1
  funext j
  by_cases h : j = 448
  · subst h; simp
  · simp [h]
theorem cutS_at {s : Wh} {x : Int} {j : Nat} (h : j < 448) : (cutS s x j).sl j = s.sl j := by
  unfold cutS
  simp only
  rw [if_neg (by omega)]
theorem cutS_next {s : Wh} {x : Int} {j : Nat} (h : j < 448) : ({ cutS s x j with sl := upd (cutS s x j).sl j (((cutS s x j).sl j).filter (stays x)) } : Wh) = cutS s x (j + 1) := by
  rw [cutS_at h]
  unfold cutS upd
  simp only [Wh.mk.injEq, true_and]
  funext k
  by_cases e : k = j
  · subst e
    simp only [if_true]
    rw [if_pos (by omega)]
  · simp only [if_neg e]
    by_cases e2 : k = 448 ∨ k < j
    · rw [if_pos e2, if_pos (by omega)]
    · rw [if_neg e2, if_neg (by omega)]
theorem inv_sub {m : Nat} {s s' : Wh} (h : InvK m s) (hn : s'.now = s.now) (hs : ∀ j t, t ∈ s'.sl j → t ∈ s.sl j) : InvK m s' :=
  ⟨fun t ht => by rw [hn]; exact h.due t (hs _ _ ht), fun k i hk hi t ht => by rw [hn]; exact h.slot k i hk hi t (hs _ _ ht), fun j hj t ht => h.most j hj t (hs _ _ ht), by rw [hn]; exact h.now⟩
theorem cutS_inv {m : Nat} {s : Wh} (h : InvK m s) (x : Int) (k : Nat) : InvK m (cutS s x k) := inv_sub h rfl fun j t ht => by
  unfold cutS at ht
  simp only at ht
  split at ht
  · exact (List.mem_filter.1 ht).1
  · exact ht
theorem cutS_all (s : Wh) (x : Int) : allT (cutS s x 448).sl 449 = (allT s.sl 449).filter (stays x) := by
  have e : allT (cutS s x 448).sl 449 = allT (fun j => (s.sl j).filter (stays x)) 449 := allT_congr fun j hj => by
    unfold cutS
    simp only
    rw [if_pos (by omega)]
  rw [e]
  unfold allT
  rw [List.filter_flatMap]
theorem erase_stays {L : List Tm} {ids : List Int} {x : Int} (h : List.Perm ids (L.map Tm.id)) (hn : ids.Nodup) : List.Perm (ids.erase x) ((L.filter (stays x)).map Tm.id) := by
  have h1 := h.erase x
  have h2 : (L.map Tm.id).Nodup := h.nodup_iff.1 hn
  rw [h2.erase_eq_filter] at h1
  have h3 : (L.map Tm.id).filter (fun y => y != x) = (L.filter (stays x)).map Tm.id := by
    rw [List.filter_map]
    rfl
  rwa [h3] at h1

set_option maxHeartbeats 1000000 in
set_option maxRecDepth 100000 in
theorem cancel_no {w : World} {p : Nat} {s : Wh} {ids : List Int} {added : Nat} {sv : Nat → Value} {mb : Option Nat} (h : Wl w p s ids added sv mb) (x : Int) (hw : (Lit.int .i64 x).wf = true) (hid : x ∉ ids) :
    Calls Tryd.prog 7 #[.pointer (some ⟨p, 0, none⟩), .int .i64 x] w fun e w' => e = .returned (.bool false) ∧ Chg Nil w w' := by
  have hal := (Chg.refl Nil w).alloc (.cells #[.int .i64 x] 3)
  have h0 := h.chg hal (fun _ _ h => h)
  have cm := h0.cm
  have hbx := Box.new w [.int .i64 x] 3
  have x0 := hbx.cell (j := 0) rfl
  have HID := Lib.hid h0.ids
  have HAL := Lib.hid hal
  have HX := Lib.hid hid
  have HWF := Lib.hid hw
  clear h h0 hal hbx hid hw
  go_enter Tryd.func7, Tryd.ntmps7
  go_upto_region 1 with fail
  generalize w.alloc (.cells #[.int .i64 x] 3) = w0 at *
  generalize w.heap.size = c at *
  have hlook : ∀ w', Chg Nil w0 w' → (Instr.lookup 26 (.map mb) (.int .i64 x) false).run Tryd.prog w' = .ok (.bool false) w' := fun w' hc => by
    have := (HID.out.chg hc (fun _ _ h => h)).look HWF.out
    rwa [show decide (x ∈ ids) = false by simp [HX.out]] at this
  refine Ch.wp_region_chain _ (Chg (Nil)) [] (fun _ _ => True) (by kernel_rfl) (fun _ => Chg.refl _ _) (fun _ _ _ h k => h.trans k (fun _ h => .inl h)) [[], [0], [1], [2], [], [3, 4], [5]] rfl (by kernel_rfl) (by kernel_rfl) (Chg.refl _ _).drew ?_ ?_
  · trivial
  iterate 3 ((with_reducible apply Ch.Walk.eq); (case hd => rfl); (case hi => rfl); case h => (intro w2 hw2 N hN; simp only [Ch.depsOf, List.filterMap_nil, List.filterMap_cons, List.getElem?_toArray, List.getElem?_cons_zero, List.getElem?_cons_succ, Option.bind_some, List.nil_append, List.cons_append, Ch.Ob]; go_simp; (try go_bits); with_reducible exact hN _ (Chg.refl _ _) (fun _ h => h)))
  ((with_reducible apply Ch.Walk.eq); (case hd => rfl); (case hi => rfl); case h => (intro w2 hw2 N hN; (have hq := hw2.cell cm (fun h => h)); simp only [Ch.depsOf, List.filterMap_nil, List.filterMap_cons, List.getElem?_toArray, List.getElem?_cons_zero, List.getElem?_cons_succ, Option.bind_some, List.nil_append, List.cons_append, Ch.Ob]; go_simp; (try go_bits); with_reducible exact hN _ (Chg.refl _ _) (fun _ h => h)))
  ((with_reducible apply Ch.Walk.eq); (case hd => rfl); (case hi => rfl); case h => (intro w2 hw2 N hN; (have hq := hw2.cell x0 (fun h => h)); simp only [Ch.depsOf, List.filterMap_nil, List.filterMap_cons, List.getElem?_toArray, List.getElem?_cons_zero, List.getElem?_cons_succ, Option.bind_some, List.nil_append, List.cons_append, Ch.Ob]; go_simp; (try go_bits); with_reducible exact hN _ (Chg.refl _ _) (fun _ h => h)))
  ((with_reducible apply Ch.Walk.eq); (case hd => rfl); (case hi => rfl); case h => (intro w2 hw2 N hN; (have hq := hlook w2 hw2); simp only [Ch.depsOf, List.filterMap_nil, List.filterMap_cons, List.getElem?_toArray, List.getElem?_cons_zero, List.getElem?_cons_succ, Option.bind_some, List.nil_append, List.cons_append, Ch.Ob]; go_simp; (try go_bits); with_reducible exact hN _ (Chg.refl _ _) (fun _ h => h)))
  ((with_reducible apply Ch.Walk.eq); (case hd => rfl); (case hi => rfl); case h => (intro w2 hw2 N hN; simp only [Ch.depsOf, List.filterMap_nil, List.filterMap_cons, List.getElem?_toArray, List.getElem?_cons_zero, List.getElem?_cons_succ, Option.bind_some, List.nil_append, List.cons_append, Ch.Ob]; go_simp; (try go_bits); with_reducible exact hN _ (Chg.refl _ _) (fun _ h => h)))
  intro w6 hw6
  simp only [List.nil_append, List.cons_append, Ch.Fin, List.map_cons, List.map_nil, List.getD_cons_zero, List.getD_cons_succ]
  intro _
  go_wp2_with fail
  go_ret
  exact ⟨rfl, HAL.out.trans hw6 (fun _ h => h.elim)⟩

/-- What taking a timer out leaves. -/
def CanPost (w : World) (p : Nat) (s : Wh) (ids : List Int) (added : Nat) (sv : Nat → Value) (mb : Option Nat) (x : Int) (w' : World) : Prop :=
  ∃ sv', Wl w' p (cutS s x 448) (ids.erase x) added sv' mb ∧ Chg (Has p sv mb) w w' ∧ ∀ i, Has p sv' mb i → Has p sv mb i
/-- What the operations of a row's turn leave, one by one. -/
def TurnF (w0 : World) (p off : Nat) (v : Value) (l l' : List Tm) : List Value → World → Prop
  | [], w => w.cell? ⟨p, off, none⟩ = some v ∧ Chg Nil w0 w
  | [u], w => u = v ∧ Chg Nil w0 w
  | [_, u], w => Chg (Own v) w0 w ∧ OwnTm w u l' ∧ u.ownBlock = v.ownBlock ∧ ∃ a n k, u = .slice a n k
  | [_, _, _], w => ∃ w7 a n k, Chg (Own v) w0 w7 ∧ OwnTm w7 (.slice a n k) l' ∧ (Value.slice a n k).ownBlock = v.ownBlock ∧ w = w7.setCell ⟨p, off, none⟩ (.slice a n k)
  | _, _ => False

theorem one_eq {vs : List Value} (h : vs.length = 1) : vs = [vs.getD 0 undef] := by
  rcases vs with _ | ⟨a, _ | ⟨b, t⟩⟩
  · simp at h
  · rfl
  · simp at h
theorem two_eq {vs : List Value} (h : vs.length = 2) : vs = [vs.getD 0 undef, vs.getD 1 undef] := by
  rcases vs with _ | ⟨a, _ | ⟨b, _ | ⟨c, t⟩⟩⟩
  · simp at h
  · simp at h
  · rfl
  · simp at h
theorem has_same {p : Nat} {sv : Nat → Value} {mb : Option Nat} {j : Nat} (hj : j < 449) {v' : Value} (h : v'.ownBlock = (sv j).ownBlock) : ∀ i, Has p (upd sv j v') mb i → Has p sv mb i := by
  rintro i (e | e | ⟨k, hk, e⟩)
  · exact .inl e
  · exact .inr (.inl e)
  · by_cases ek : k = j
    · subst ek; rw [upd_same, h] at e; exact .inr (.inr ⟨k, hk, e⟩)
    · rw [upd_other sv _ ek] at e; exact .inr (.inr ⟨k, hk, e⟩)

set_option maxHeartbeats 40000000 in
set_option maxRecDepth 100000 in
theorem cancel_ok {w : World} {p : Nat} {s : Wh} {ids : List Int} {added : Nat} {sv : Nat → Value} {mb : Option Nat} (h : Wl w p s ids added sv mb) (x : Int) (hw : (Lit.int .i64 x).wf = true) (hid : x ∈ ids) (hml : ∀ j, j < 449 → (s.sl j).length ≤ 1000000) :
    Calls Tryd.prog 7 #[.pointer (some ⟨p, 0, none⟩), .int .i64 x] w fun e w' => e = .returned (.bool true) ∧ CanPost w p s ids added sv mb x w' := by
  have hal := (Chg.refl Nil w).alloc (.cells #[.int .i64 x] 3)
  have h0 := h.chg hal (fun _ _ h => h)
  obtain ⟨b, hb⟩ : ∃ b, mb = some b := by
    rcases h.ids.2 with ⟨_, e⟩ | ⟨b, D, e, _⟩
    · rw [e] at hid; cases hid
    · exact ⟨b, e⟩
  subst hb
  have cm := h0.cm
  have hbx := Box.new w [.int .i64 x] 3
  have x0 := hbx.cell (j := 0) rfl
  have HW0 := Lib.hid h0
  have HLT := Lib.hid (fun i hi => h.lt i hi)
  have HAL := Lib.hid hal
  have HWF := Lib.hid hw
  have HML := Lib.hid hml
  have hlook : ∀ w', Chg Nil (w.alloc (.cells #[.int .i64 x] 3)) w' → (Instr.lookup 26 (.map (some b)) (.int .i64 x) false).run Tryd.prog w' = .ok (.bool true) w' := fun w' hc => by
    have := (h0.ids.chg hc (fun _ _ h => h)).look hw
    rwa [show decide (x ∈ ids) = true by simp [hid]] at this
  clear h h0 hal hbx hid hw hml
  go_enter Tryd.func7, Tryd.ntmps7
  go_upto_region 1 with fail
  generalize w.alloc (.cells #[.int .i64 x] 3) = w0 at *
  generalize w.heap.size = c at *
  refine Ch.wp_region_chain _ (Chg (Nil)) [] (fun _ _ => True) (by kernel_rfl) (fun _ => Chg.refl _ _) (fun _ _ _ h k => h.trans k (fun _ h => .inl h)) [[], [0], [1], [2], [], [3, 4], [5]] rfl (by kernel_rfl) (by kernel_rfl) (Chg.refl _ _).drew ?_ ?_
  · trivial
  iterate 3 ((with_reducible apply Ch.Walk.eq); (case hd => rfl); (case hi => rfl); case h => (intro w2 hw2 N hN; simp only [Ch.depsOf, List.filterMap_nil, List.filterMap_cons, List.getElem?_toArray, List.getElem?_cons_zero, List.getElem?_cons_succ, Option.bind_some, List.nil_append, List.cons_append, Ch.Ob]; go_simp; (try go_bits); with_reducible exact hN _ (Chg.refl _ _) (fun _ h => h)))
  ((with_reducible apply Ch.Walk.eq); (case hd => rfl); (case hi => rfl); case h => (intro w2 hw2 N hN; (have hq := hw2.cell cm (fun h => h)); simp only [Ch.depsOf, List.filterMap_nil, List.filterMap_cons, List.getElem?_toArray, List.getElem?_cons_zero, List.getElem?_cons_succ, Option.bind_some, List.nil_append, List.cons_append, Ch.Ob]; go_simp; (try go_bits); with_reducible exact hN _ (Chg.refl _ _) (fun _ h => h)))
  ((with_reducible apply Ch.Walk.eq); (case hd => rfl); (case hi => rfl); case h => (intro w2 hw2 N hN; (have hq := hw2.cell x0 (fun h => h)); simp only [Ch.depsOf, List.filterMap_nil, List.filterMap_cons, List.getElem?_toArray, List.getElem?_cons_zero, List.getElem?_cons_succ, Option.bind_some, List.nil_append, List.cons_append, Ch.Ob]; go_simp; (try go_bits); with_reducible exact hN _ (Chg.refl _ _) (fun _ h => h)))
  ((with_reducible apply Ch.Walk.eq); (case hd => rfl); (case hi => rfl); case h => (intro w2 hw2 N hN; (have hq := hlook w2 hw2); simp only [Ch.depsOf, List.filterMap_nil, List.filterMap_cons, List.getElem?_toArray, List.getElem?_cons_zero, List.getElem?_cons_succ, Option.bind_some, List.nil_append, List.cons_append, Ch.Ob]; go_simp; (try go_bits); with_reducible exact hN _ (Chg.refl _ _) (fun _ h => h)))
  ((with_reducible apply Ch.Walk.eq); (case hd => rfl); (case hi => rfl); case h => (intro w2 hw2 N hN; simp only [Ch.depsOf, List.filterMap_nil, List.filterMap_cons, List.getElem?_toArray, List.getElem?_cons_zero, List.getElem?_cons_succ, Option.bind_some, List.nil_append, List.cons_append, Ch.Ob]; go_simp; (try go_bits); with_reducible exact hN _ (Chg.refl _ _) (fun _ h => h)))
  intro w1 hw1
  simp only [List.nil_append, List.cons_append, Ch.Fin, List.map_cons, List.map_nil, List.getD_cons_zero, List.getD_cons_succ]
  intro _
  clear hlook
  go_upto_region 3 with fail
  have cm := hw1.cell cm (fun h => h)
  have x0 := hw1.cell x0 (fun h => h)
  have HW1 := Lib.hid (HW0.out.chg hw1 (fun _ _ h => h))
  have HC1 := Lib.hid (HAL.out.trans hw1 (fun _ h => h.elim))
  have HMP := Lib.hid HW1.out.mp
  have hcb : ¬ c = b := fun e => by have := HLT.out b (.inr (.inl rfl)); omega
  clear hw1 HW0 HAL
  refine Ch.wp_region_chain _ (Chg (fun i => i = b)) [5] (fun vs w => match vs with | [] => IdsAt w (some b) ids | _ => IdsAt w (some b) (ids.erase x)) (by kernel_rfl) (fun _ => Chg.refl _ _) (fun _ _ _ h k => h.trans k (fun _ h => .inl h)) [[], [0], [1], [2], [], [3, 4]] rfl (by kernel_rfl) (by kernel_rfl) (Chg.refl _ _).drew ?_ ?_
  · exact HW1.out.ids.chg (Chg.refl Nil _).drew (fun _ _ h => h)
  iterate 3 ((with_reducible apply Ch.Walk.eq); (case hd => rfl); (case hi => rfl); case h => (intro w2 hw2 N hN; simp only [Ch.depsOf, List.filterMap_nil, List.filterMap_cons, List.getElem?_toArray, List.getElem?_cons_zero, List.getElem?_cons_succ, Option.bind_some, List.nil_append, List.cons_append, Ch.Ob]; go_simp; (try go_bits); with_reducible exact hN _ (Chg.refl _ _) (fun _ h => h)))
  ((with_reducible apply Ch.Walk.eq); (case hd => rfl); (case hi => rfl); case h => (intro w2 hw2 N hN; (have hq := hw2.cell cm (fun e => HMP.out (congrArg some (show p = b from e)).symm)); simp only [Ch.depsOf, List.filterMap_nil, List.filterMap_cons, List.getElem?_toArray, List.getElem?_cons_zero, List.getElem?_cons_succ, Option.bind_some, List.nil_append, List.cons_append, Ch.Ob]; go_simp; (try go_bits); with_reducible exact hN _ (Chg.refl _ _) (fun _ h => h)))
  ((with_reducible apply Ch.Walk.eq); (case hd => rfl); (case hi => rfl); case h => (intro w2 hw2 N hN; (have hq := hw2.cell x0 (fun e => hcb e)); simp only [Ch.depsOf, List.filterMap_nil, List.filterMap_cons, List.getElem?_toArray, List.getElem?_cons_zero, List.getElem?_cons_succ, Option.bind_some, List.nil_append, List.cons_append, Ch.Ob]; go_simp; (try go_bits); with_reducible exact hN _ (Chg.refl _ _) (fun _ h => h)))
  refine Ch.Walk.chainS 0 rfl rfl ?_ ?_
  · intro w7 hw7 vs hvs hF N hN
    obtain rfl := List.eq_nil_of_length_eq_zero hvs
    simp only [Ch.depsOf, List.filterMap_nil, List.filterMap_cons, List.getElem?_toArray, List.getElem?_cons_zero, List.getElem?_cons_succ, Option.bind_some, List.nil_append, List.cons_append, Ch.Ob, Ch.chained_get, Option.map_some, List.idxOf?, List.findIdx?, List.findIdx?.go, Nat.reduceBEq, List.getD_cons_zero, List.getD_cons_succ, Nat.reduceAdd, if_true, if_false, Bool.false_eq_true]
    obtain ⟨w8, hrun, hids, hchg⟩ := IdsAt.drop hF HWF.out 0
    have HN := Lib.hid (hN w8 hchg hids)
    clear hF hN hids hchg
    go_simp
    exact HN.out
  intro w2 hw2
  simp only [List.nil_append, List.cons_append, Ch.Fin, List.map_cons, List.map_nil, List.getD_cons_zero, List.getD_cons_succ]
  intro hids
  have HIDS : Hid (IdsAt w2 (some b) (ids.erase x)) := hids
  have HW2 := Lib.hid (HW1.out.turned hw2 HIDS.out)
  have HC2 := Lib.hid ((HC1.out.weak (S' := Has p sv (some b)) (fun _ h => h.elim)).trans hw2 (fun i e => .inl (.inr (.inl (congrArg some (show i = b from e).symm)))))
  have x0 := hw2.cell x0 (fun e => hcb e)
  clear hids HIDS hw2 HW1 cm
  have q0 := HW2.out.cs 448 (by omega)
  have qn := HW2.out.ne 448 (by omega)
  have HQN := Lib.hid qn
  have HDEL := Lib.hid (del_any (HW2.out.own 448 (by omega)) x c (HML.out 448 (by omega)) x0 (fun e => by have := HLT.out c (.inr (.inr ⟨448, by omega, e⟩)); omega))
  clear qn
  go_wp2_with fail
  refine HDEL.out.mono ?_
  rintro e w3 ⟨a, n, k, rfl, ho, hc3, hown⟩
  have q1 := hc3.cell q0 (fun e => HQN.out e)
  have qf := (hc3.frozen (a := ⟨p, 449, none⟩) (HW2.out.lt p (.inl rfl)) (fun e => HQN.out e)).trans (HW2.out.fr 449)
  have hrow := HW2.out.row (j := 448) (by omega) hc3 ho (fun k hk => .inl (by rw [← hown]; exact hk))
  rw [cutS_zero] at hrow
  have hcs := setCell_chg w3 p (1 + 448) (.slice a n k)
  have HROW := Lib.hid hrow
  have HHS : Hid (∀ i, Has p (upd sv 448 (.slice a n k)) (some b) i → Has p sv (some b) i) := has_same (by omega) hown
  have HC3 := Lib.hid ((HC2.out.trans hc3 (fun i h => .inl (.inr (.inr ⟨448, by omega, h⟩)))).trans hcs (fun i h => .inl (.inl h)))
  have HX3 := Lib.hid (hcs.cell (hc3.cell x0 (fun e => by have := HLT.out c (.inr (.inr ⟨448, by omega, e⟩)); omega)) (fun e => by have := HLT.out c (.inl e); omega))
  have hcp : ¬ c = p := fun e => by have := HLT.out c (.inl e); omega
  clear q0 hc3 ho hrow hown hcs HW2 HC2 x0 HDEL
  go_upto_region 6 with fail
  clear q1 qf
  generalize w3.setCell ⟨p, 449, none⟩ (.slice a n k) = w4 at *
  generalize upd sv 448 (.slice a n k) = sv4 at *
  go_wp2_with fail
  go_loopw [30] (fun kk wz => ∃ (wq : World) (k : Nat) (sv2 : Nat → Value), wq = wz ∧ k ≤ 7 ∧ kk = .int .i64 k ∧ Wl wz p (cutS s x (64 * k)) (ids.erase x) added sv2 (some b) ∧ Chg (Has p sv (some b)) w wz ∧ (∀ i, Has p sv2 (some b) i → Has p sv (some b) i) ∧ wz.cell? ⟨c, 0, none⟩ = some (.int .i64 x)) (fun kk _ => 7 - (RowKit.intOf kk).toNat)
  case atStart => exact ⟨_, 0, sv4, rfl, by omega, rfl, HROW.out, HC3.out, HHS.out, HX3.out⟩
  case round =>
    obtain ⟨wr, k, sv2, rfl, hk, rfl, hw5, hc5, hh5, hx5⟩ := hrel
    have HW5 := Lib.hid hw5
    have HC5 := Lib.hid hc5
    have HH5 := Lib.hid hh5
    have HX5 := Lib.hid hx5
    clear hw5 hc5 hh5 hx5 HROW HC3 HHS HX3
    by_cases hk7 : k < 7
    · have hki : (k : Int) < 7 := by omega
      go_wp2_with fail
      go_loopw [33] (fun ii wz => ∃ (wq : World) (i : Nat) (sv3 : Nat → Value), wq = wz ∧ i ≤ 64 ∧ ii = .int .i64 i ∧ Wl wz p (cutS s x (64 * k + i)) (ids.erase x) added sv3 (some b) ∧ Chg (Has p sv (some b)) w wz ∧ (∀ i, Has p sv3 (some b) i → Has p sv (some b) i) ∧ wz.cell? ⟨c, 0, none⟩ = some (.int .i64 x)) (fun ii _ => 64 - (RowKit.intOf ii).toNat)
      case atStart => exact ⟨_, 0, sv2, rfl, by omega, rfl, HW5.out, HC5.out, HH5.out, HX5.out⟩
      case round =>
        obtain ⟨wz, i, sv3, rfl, hi, rfl, hw6, hc6, hh6, hx6⟩ := hrel
        have HW6 := Lib.hid hw6
        have HC6 := Lib.hid hc6
        have HH6 := Lib.hid hh6
        have HX6 := Lib.hid hx6
        clear hw6 hc6 hh6 hx6 HW5 HC5 HH5 HX5
        by_cases hi64 : i < 64
        · have hii : (i : Int) < 64 := by omega
          have HJ : Hid (64 * k + i < 449) := by unfold Hid; omega
          have HJ8 : Hid (64 * k + i < 448) := by unfold Hid; omega
          have q0 := HW6.out.cs _ HJ.out
          have qf := HW6.out.fr (1 + (64 * k + i))
          have ho6 := HW6.out.own _ HJ.out
          rw [show 1 + (64 * k + i) = 1 + k * 64 + i by omega] at q0 qf
          have hnc : (sv3 (64 * k + i)).ownBlock ≠ some c := fun e => by
            have := HLT.out c (HH6.out c (.inr (.inr ⟨_, HJ.out, e⟩)))
            omega
          have HNC := Lib.hid hnc
          have HNP := Lib.hid (HW6.out.ne _ HJ.out)
          have HO6 := Lib.hid ho6
          have HL6 : Hid (((cutS s x (64 * k + i)).sl (64 * k + i)).length ≤ 1000000) := by unfold Hid; rw [cutS_at HJ8.out]; exact HML.out _ HJ.out
          have hpl := HW6.out.lt p (.inl rfl)
          have HQ0 := Lib.hid q0
          have HQF := Lib.hid qf
          clear ho6 hnc q0 qf
          obtain ⟨v, hv⟩ : ∃ v, v = sv3 (64 * k + i) := ⟨_, rfl⟩
          have HV := Lib.hid hv
          rw [← hv] at HNC HNP HO6 HQ0
          clear hv
          obtain ⟨l, hl⟩ : ∃ l, l = (cutS s x (64 * k + i)).sl (64 * k + i) := ⟨_, rfl⟩
          have HLQ := Lib.hid hl
          rw [← hl] at HO6 HL6
          clear hl
          go_upto_region 12 with fail
          refine Ch.wp_region_chain _ (Chg (fun j => j = p ∨ v.ownBlock = some j)) [10, 12, 17] (TurnF wz p (1 + k * 64 + i) v l (l.filter (stays x))) (by kernel_rfl) (fun _ => Chg.refl _ _) (fun _ _ _ h k => h.trans k (fun _ h => .inl h)) [[], [], [], [], [], [], [3], [6], [4, 7], [5, 8], [9], [], [10, 11], [0], [13], [1, 14], [2, 15], [12, 16]] rfl (by kernel_rfl) (by kernel_rfl) (Chg.refl _ _).drew ?_ ?_
          · exact ⟨HQ0.out, (Chg.refl Nil _).drew⟩
          iterate 10 ((with_reducible apply Ch.Walk.eq); (case hd => rfl); (case hi => rfl); case h => (intro w2 hw2 N hN; simp only [Ch.depsOf, List.filterMap_nil, List.filterMap_cons, List.getElem?_toArray, List.getElem?_cons_zero, List.getElem?_cons_succ, Option.bind_some, List.nil_append, List.cons_append, Ch.Ob]; go_simp; (try go_bits); with_reducible exact hN _ (Chg.refl _ _) (fun _ h => h)))
          refine Ch.Walk.chainE 0 (c := v) rfl rfl ?_ ?_
          · intro w7 hw7 vs hvs hF N hN
            obtain rfl := List.eq_nil_of_length_eq_zero hvs
            simp only [Ch.depsOf, List.filterMap_nil, List.filterMap_cons, List.getElem?_toArray, List.getElem?_cons_zero, List.getElem?_cons_succ, Option.bind_some, List.nil_append, List.cons_append, Ch.Ob, Ch.chained_get, Option.map_some, List.idxOf?, List.findIdx?, List.findIdx?.go, Nat.reduceBEq, List.getD_cons_zero, List.getD_cons_succ, Nat.reduceAdd, if_true, if_false, Bool.false_eq_true]
            obtain ⟨f1, f2⟩ := hF
            have HN := Lib.hid (hN w7 (Chg.refl _ _) ⟨rfl, f2⟩)
            clear hN
            go_simp
            exact HN.out
          ((with_reducible apply Ch.Walk.eq); (case hd => rfl); (case hi => rfl); case h => (intro w2 hw2 N hN; simp only [Ch.depsOf, List.filterMap_nil, List.filterMap_cons, List.getElem?_toArray, List.getElem?_cons_zero, List.getElem?_cons_succ, Option.bind_some, List.nil_append, List.cons_append, Ch.Ob]; go_simp; (try go_bits); with_reducible exact hN _ (Chg.refl _ _) (fun _ h => h)))
          refine Ch.Walk.chain 1 rfl rfl ?_ ?_
          · intro w7 hw7 vs hvs hF N hN
            have hvq := one_eq hvs
            generalize vs.getD 0 undef = v1 at hvq
            clear hvs
            subst hvq
            have e1 : v1 = v := hF.1
            have f2 : Chg Nil wz w7 := hF.2
            clear hF
            subst e1
            simp only [Ch.depsOf, List.filterMap_nil, List.filterMap_cons, List.getElem?_toArray, List.getElem?_cons_zero, List.getElem?_cons_succ, Option.bind_some, List.nil_append, List.cons_append, Ch.Ob, Ch.chained_get, Option.map_some, List.idxOf?, List.findIdx?, List.findIdx?.go, Nat.reduceBEq, List.getD_cons_zero, List.getD_cons_succ, Nat.reduceAdd, if_true, if_false, Bool.false_eq_true]
            go_simp
            refine (del_any (HO6.out.chg f2 (fun _ _ h => h)) x c HL6.out (f2.cell HX6.out (fun h => h)) HNC.out).mono ?_
            rintro e w8 ⟨a1, n1, k1, rfl, ho, hch, how⟩
            exact ⟨_, rfl, hN _ _ (hch.weak (fun j h => .inl (.inr h))) ⟨(f2.weak (fun _ h => h.elim)).trans hch (fun _ h => .inl h), ho, how, a1, n1, k1, rfl⟩⟩
          iterate 4 ((with_reducible apply Ch.Walk.eq); (case hd => rfl); (case hi => rfl); case h => (intro w2 hw2 N hN; simp only [Ch.depsOf, List.filterMap_nil, List.filterMap_cons, List.getElem?_toArray, List.getElem?_cons_zero, List.getElem?_cons_succ, Option.bind_some, List.nil_append, List.cons_append, Ch.Ob]; go_simp; (try go_bits); with_reducible exact hN _ (Chg.refl _ _) (fun _ h => h)))
          refine Ch.Walk.chainS 2 rfl rfl ?_ ?_
          · intro w7 hw7 vs hvs hF N hN
            have hvq := two_eq hvs
            generalize vs.getD 0 undef = v1 at hvq
            generalize vs.getD 1 undef = v2 at hvq
            clear hvs
            subst hvq
            have f1 : Chg (Own v) wz w7 := hF.1
            have f2 : OwnTm w7 v2 (l.filter (stays x)) := hF.2.1
            have f3 : v2.ownBlock = v.ownBlock := hF.2.2.1
            have hvf := form_eq hF.2.2.2
            generalize vA v2 = a1 at hvf
            generalize vN v2 = n1 at hvf
            generalize vC v2 = k1 at hvf
            clear hF
            subst hvf
            simp only [Ch.depsOf, List.filterMap_nil, List.filterMap_cons, List.getElem?_toArray, List.getElem?_cons_zero, List.getElem?_cons_succ, Option.bind_some, List.nil_append, List.cons_append, Ch.Ob, Ch.chained_get, Option.map_some, List.idxOf?, List.findIdx?, List.findIdx?.go, Nat.reduceBEq, List.getD_cons_zero, List.getD_cons_succ, Nat.reduceAdd, if_true, if_false, Bool.false_eq_true]
            have hq := f1.cell HQ0.out (fun e => HNP.out e)
            have hqf := (f1.frozen (a := ⟨p, 1 + k * 64 + i, none⟩) hpl (fun e => HNP.out e)).trans HQF.out
            have HN := Lib.hid (hN (w7.setCell ⟨p, 1 + k * 64 + i, none⟩ (.slice a1 n1 k1)) ((setCell_chg w7 p _ _).weak (fun j h => .inl (.inl h))) ⟨w7, a1, n1, k1, f1, f2, f3, rfl⟩)
            clear hN f1 f2 f3
            go_simp
            exact HN.out
          intro w7 hw7
          simp only [List.nil_append, List.cons_append, Ch.Fin, List.map_cons, List.map_nil, List.getD_cons_zero, List.getD_cons_succ]
          intro v1 _ hF
          have hF2 : ∃ w8 a1 n1 k1, Chg (Own v) wz w8 ∧ OwnTm w8 (.slice a1 n1 k1) (l.filter (stays x)) ∧ (Value.slice a1 n1 k1).ownBlock = v.ownBlock ∧ w7 = w8.setCell ⟨p, 1 + k * 64 + i, none⟩ (.slice a1 n1 k1) := hF
          clear hF hw7
          obtain ⟨w8, a1, n1, k1, g1, g2, g3, g4⟩ := hF2
          rw [HV.out] at g1 g3
          rw [HLQ.out] at g2
          rw [show 1 + k * 64 + i = 1 + (64 * k + i) by omega] at g4
          have hrow := HW6.out.row HJ.out g1 g2 (fun k hk => .inl (by rw [← g3]; exact hk))
          rw [cutS_next HJ8.out, ← g4] at hrow
          have HROW := Lib.hid hrow
          have HH7 : Hid (∀ j, Has p (upd sv3 (64 * k + i) (.slice a1 n1 k1)) (some b) j → Has p sv (some b) j) := fun j hj => HH6.out j (has_same HJ.out g3 j hj)
          have hcs := setCell_chg w8 p (1 + (64 * k + i)) (.slice a1 n1 k1)
          rw [← g4] at hcs
          have HC7 := Lib.hid ((HC6.out.trans g1 (fun j h => .inl (HH6.out j (.inr (.inr ⟨_, HJ.out, h⟩))))).trans hcs (fun j h => .inl (.inl h)))
          have HX7 := Lib.hid (hcs.cell (g1.cell HX6.out (fun e => HNC.out (by rw [HV.out]; exact e))) (fun e => hcp e))
          clear hrow hcs g1 g2 g3 g4 HW6 HC6 HH6 HX6 HO6 HQ0 HQF
          go_wp2_with fail
          go_roundw
          case rel => exact ⟨_, i + 1, upd sv3 (64 * k + i) (.slice a1 n1 k1), rfl, by omega, by go_num, HROW.out, HC7.out, HH7.out, HX7.out⟩
          case measure => simp [RowKit.intOf]; omega
        · have hii : ¬ (i : Int) < 64 := by omega
          obtain rfl : i = 64 := by omega
          go_wp2_with fail
          go_roundw
          case rel => exact ⟨_, k + 1, sv3, rfl, by omega, by go_num, by rw [show 64 * (k + 1) = 64 * k + 64 by omega]; exact HW6.out, HC6.out, HH6.out, HX6.out⟩
          case measure => simp [RowKit.intOf]; omega
    · have hki : ¬ (k : Int) < 7 := by omega
      obtain rfl : k = 7 := by omega
      go_wp2_with fail
      go_ret
      exact ⟨rfl, sv2, HW5.out, HC5.out, HH5.out⟩
end Go.Proofs.YtdahefphohkhlaaDoor
