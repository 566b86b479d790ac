/-
  slices.DeleteFunc at timers, under Cancel's own predicate.
-/
import Derived.Test.YtdahefphohkhlaaDoorWhIntL
set_option linter.unusedSimpArgs false
set_option linter.unusedVariables false
namespace Go.Proofs.YtdahefphohkhlaaDoor
open Go.RowKit Go.Maps

/-- Who stays. -/
def stays (x : Int) (t : Tm) : Bool := !(t.id == x)

set_option maxRecDepth 100000 in
theorem gone_any (t : Tm) (x : Int) (c : Nat) (W : World) (hc : W.cell? ⟨c, 0, none⟩ = some (.int .i64 x)) :
    Calls Tryd.prog 14 #[.agg #[.int .i64 (t.at' : Nat), .int .i64 t.id, .int .i64 (t.num : Nat)], .pointer (some ⟨c, 0, none⟩)] W fun e w' => e = .returned (.bool (t.id == x)) ∧ Chg Nil W w' := by
  have hcl := World.block_lt_of_cell? _ _ hc
  go_enter Tryd.func14, Tryd.ntmps14
  go_wp2_with fail
  go_ret
  exact ⟨rfl, (Chg.refl _ _).alloc _⟩

/-- The first one that goes. -/
def firstGone (x : Int) : List Tm → Nat
  | [] => 0
  | t :: l => if t.id == x then 0 else firstGone x l + 1
theorem firstGone_le (x : Int) : ∀ l : List Tm, firstGone x l ≤ l.length
  | [] => Nat.le_refl _
  | t :: l => by
    unfold firstGone
    have := firstGone_le x l
    split
    · omega
    · rw [List.length_cons]; omega
theorem firstGone_take (x : Int) : ∀ l : List Tm, (l.take (firstGone x l)).filter (stays x) = l.take (firstGone x l)
  | [] => rfl
  | t :: l => by
    unfold firstGone
    by_cases h : (t.id == x) = true
    · rw [if_pos h]; rfl
    · rw [if_neg h]
      have h' : stays x t = true := by unfold stays; simpa using h
      rw [List.take_succ_cons, List.filter_cons, if_pos h', firstGone_take x l]
theorem firstGone_at (x : Int) : ∀ (l : List Tm) (h : firstGone x l < l.length), stays x (l[firstGone x l]) = false
  | [], h => by simp at h
  | t :: l, h => by
    unfold firstGone at h ⊢
    by_cases hb : (t.id == x) = true
    · simp only [hb, if_true]
      unfold stays
      simp [hb]
    · simp only [hb] at h ⊢
      exact firstGone_at x l (by simpa using h)
theorem firstGone_before (x : Int) : ∀ (l : List Tm) (i : Nat) (h : i < l.length), i < firstGone x l → (l[i].id == x) = false
  | [], i, h, _ => by simp at h
  | t :: l, i, h, hi => by
    unfold firstGone at hi
    by_cases hb : (t.id == x) = true
    · rw [if_pos hb] at hi; omega
    · cases i with
      | zero => simpa using hb
      | succ i =>
        rw [if_neg hb] at hi
        exact firstGone_before x l i (by simpa using h) (by omega)
theorem firstGone_is {x : Int} {l : List Tm} {i : Nat} (h : i < l.length) (hb : (l[i].id == x) = true) (hl : ∀ j (hj : j < l.length), j < i → (l[j].id == x) = false) : firstGone x l = i := by
  rcases Nat.lt_trichotomy (firstGone x l) i with g | g | g
  · have h1 := firstGone_at x l (by omega)
    have h2 := hl (firstGone x l) (by omega) g
    unfold stays at h1
    rw [h2] at h1
    simp at h1
  · exact g
  · have := firstGone_before x l i h g
    rw [hb] at this; cases this
theorem firstGone_none {x : Int} {l : List Tm} (hl : ∀ j (hj : j < l.length), (l[j].id == x) = false) : firstGone x l = l.length := by
  rcases Nat.lt_or_ge (firstGone x l) l.length with g | g
  · have h1 := firstGone_at x l g
    unfold stays at h1
    rw [hl _ g] at h1
    simp at h1
  · exact Nat.le_antisymm (firstGone_le x l) g

set_option maxHeartbeats 1000000 in
set_option maxRecDepth 100000 in
theorem idx_any (a : Option Addr) (l : List Tm) (cap : Nat) (x : Int) (c : Nat) (w : World) (hll : l.length ≤ 1000000) (ht : TmsAt w a l) (hc : w.cell? ⟨c, 0, none⟩ = some (.int .i64 x)) :
    Calls Tryd.prog 20 #[.slice a l.length cap, .func (.func 14) #[] #[.pointer (some ⟨c, 0, none⟩)]] w fun e w' =>
      e = .returned (.int .i64 (if firstGone x l < l.length then (firstGone x l : Int) else -1)) ∧ Chg Nil w w' := by
  have HT := Lib.hid ht
  have HC := Lib.hid hc
  obtain ⟨r, hr⟩ : ∃ r : Int, r = (if firstGone x l < l.length then (firstGone x l : Int) else -1) := ⟨_, rfl⟩
  rw [← hr]
  have HR := Lib.hid hr
  clear ht hc hr
  go_enter Tryd.func20, Tryd.ntmps20
  go_wp2_with fail
  go_loopw [8] (fun i wr => ∃ (wq : World) (k : Nat), wq = wr ∧ k ≤ l.length ∧ i = .int .i64 k ∧ Chg Nil w wr ∧ Hid (∀ j (hj : j < l.length), j < k → (l[j].id == x) = false)) (fun i _ => l.length - (RowKit.intOf i).toNat)
  case atStart => exact ⟨_, 0, rfl, by omega, rfl, Chg.refl _ _, fun j _ h => by omega⟩
  case round =>
    obtain ⟨wr, k, rfl, hk, rfl, hch, HB⟩ := hrel
    by_cases hkl : k < l.length
    · have hki : (k : Int) < (l.length : Int) := by omega
      obtain ⟨b, off, rfl, hcell⟩ := HT.out k hkl
      have y0 := hch.cell (hcell 0 _ rfl) (fun h => h)
      have y1 := hch.cell (hcell 1 _ rfl) (fun h => h)
      have y2 := hch.cell (hcell 2 _ rfl) (fun h => h)
      rw [Nat.add_zero] at y0
      have hgn := gone_any l[k] x c wr (hch.cell HC.out (fun h => h))
      clear hcell
      by_cases hb : (l[k].id == x) = true
      · have HBT := Lib.hid hb
        rw [hb] at hgn
        have HGN := Lib.hid hgn
        clear hb hgn
        go_wp2_with fail
        refine HGN.out.mono ?_
        rintro e w2 ⟨rfl, hc2⟩
        have HFI : Hid (firstGone x l = k) := firstGone_is hkl HBT.out HB.out
        go_wp2_with fail
        go_ret
        exact ⟨by rw [HR.out, HFI.out, if_pos hkl]; rfl, hch.trans hc2 (fun _ h => h.elim)⟩
      · have hb' : (l[k].id == x) = false := by simpa using hb
        have HBT := Lib.hid hb'
        rw [hb'] at hgn
        have HGN := Lib.hid hgn
        clear hb hb' hgn
        go_wp2_with fail
        refine HGN.out.mono ?_
        rintro e w2 ⟨rfl, hc2⟩
        go_wp2_with fail
        go_roundw
        case rel =>
          refine ⟨_, k + 1, rfl, by omega, by go_num, hch.trans hc2 (fun _ h => h.elim), fun j hj hjk => ?_⟩
          by_cases e : j = k
          · subst e; exact HBT.out
          · exact HB.out j hj (by omega)
        case measure => simp [RowKit.intOf]; omega
    · have hki : ¬ (k : Int) < (l.length : Int) := by omega
      obtain rfl : k = l.length := by omega
      have HFI : Hid (firstGone x l = l.length) := firstGone_none fun j hj => HB.out j hj hj
      go_wp2_with fail
      go_ret
      exact ⟨by rw [HR.out, HFI.out, if_neg (by omega)]; rfl, hch⟩

theorem heap_setCell {w : World} {g k : Nat} {c : Array Value} {e : TypeId} {fr : Nat × Nat} {v : Value} (h : w.heap[g]? = some (.cells c e fr)) : (w.setCell ⟨g, k, none⟩ v).heap[g]? = some (.cells (c.setIfInBounds k v) e fr) := by
  simp only [World.setCell, Array.getElem?_modify, if_true, h, Option.map_some]
  simp
theorem flat_set : ∀ (M : List Tm) (i : Nat) (t : Tm), i < M.length →
    ((((M.flatMap Tm.cells).set (i * 3) (.int .i64 (t.at' : Nat))).set (i * 3 + 1) (.int .i64 t.id)).set (i * 3 + 2) (.int .i64 (t.num : Nat))) = (M.set i t).flatMap Tm.cells
  | [], i, t, h => by simp at h
  | m :: M, 0, t, _ => by
    rw [List.flatMap_cons, List.set_cons_zero, List.flatMap_cons]
    simp [Tm.cells]
  | m :: M, i + 1, t, h => by
    rw [List.flatMap_cons, List.set_cons_succ, List.flatMap_cons, ← flat_set M i t (by simpa using h)]
    have e : (i + 1) * 3 = i * 3 + 3 := by omega
    rw [e]
    simp [Tm.cells]
theorem own_set {w : World} {g cap : Nat} {M : List Tm} (h : OwnTm w (.slice (some ⟨g, 0, none⟩) M.length cap) M) {i : Nat} (hi : i < M.length) (t : Tm) :
    OwnTm (((w.setCell ⟨g, i * 3, none⟩ (.int .i64 (t.at' : Nat))).setCell ⟨g, i * 3 + 1, none⟩ (.int .i64 t.id)).setCell ⟨g, i * 3 + 2, none⟩ (.int .i64 (t.num : Nat))) (.slice (some ⟨g, 0, none⟩) M.length cap) (M.set i t) := by
  rcases h.2 with ⟨e, _⟩ | ⟨g', cap', cur, e, hb, hg, hnc, hcm, hcs, htake⟩
  · cases e
  · simp only [Value.slice.injEq, Option.some.injEq, Addr.mk.injEq] at e
    obtain ⟨⟨rfl, _⟩, _, rfl⟩ := e
    have hl : (M.set i t).length = M.length := List.length_set
    have hfl : ∀ l : List Tm, (l.flatMap Tm.cells).length = l.length * 3 := by
      intro l
      induction l with
      | nil => rfl
      | cons t l ih => rw [List.flatMap_cons, List.length_append, ih, List.length_cons]; show 3 + _ = _; omega
    unfold OwnTm
    rw [hl]
    refine ⟨by rw [hfl, hl], .inr ⟨g, cap, _, rfl, hb, heap_setCell (heap_setCell (heap_setCell hg)), hnc, hcm, by simpa using hcs, ?_⟩⟩
    simp only [Array.toList_setIfInBounds, List.take_set, htake]
    exact flat_set M i t hi
/-- 'clear' of what stands behind the first i. -/
theorem clear_tms {w : World} {g cap i : Nat} {M : List Tm} (h : OwnTm w (.slice (some ⟨g, 0, none⟩) M.length cap) M) (hi : i < M.length) (ty : TypeId) (c2 : Nat) :
    ∃ w', (Builtin.clear_ #[23] ty #[.slice (some ⟨g, i * 3, none⟩) (M.length - i) c2]).run Tryd.prog w = .ok (.tuple #[]) w' ∧ OwnTm w' (.slice (some ⟨g, 0, none⟩) i cap) (M.take i) ∧ Chg (fun k => k = g) w w' := by
  rcases h.2 with ⟨e, _⟩ | ⟨g', cap', cur, e, hb, hg, hnc, hcm, hcs, htake⟩
  · cases e
  · simp only [Value.slice.injEq, Option.some.injEq, Addr.mk.injEq] at e
    obtain ⟨⟨rfl, _⟩, _, rfl⟩ := e
    obtain ⟨ht, inf, z, hinf, hz, hzs, _, _⟩ := tmsT
    have hzv : (Tryd.prog.info? 51).map (fun i => i.zero) = some (some (.agg #[.int .i64 0, .int .i64 0, .int .i64 0])) := by kernel_rfl
    have hzz : z = .agg #[.int .i64 0, .int .i64 0, .int .i64 0] := by
      rw [hinf] at hzv
      simp only [Option.map_some, Option.some.injEq] at hzv
      rw [hz] at hzv
      exact Option.some.inj hzv
    subst hzz
    have hNi : i + (M.length - i) = M.length := by omega
    generalize M.length - i = N at *
    have hlen : (Builtin.zeroCells (Value.agg #[.int .i64 0, .int .i64 0, .int .i64 0]).cells N).toList.length = N * 3 := by
      rw [Array.length_toList, size_zeroCells]
      rfl
    have hcap : M.length * 3 ≤ cap * 3 := Nat.mul_le_mul_right _ hnc
    have hfit : i * 3 + 0 + (Builtin.zeroCells (Value.agg #[.int .i64 0, .int .i64 0, .int .i64 0]).cells N).toList.length ≤ cur.size := by
      rw [hlen, hcs]
      omega
    have hone : ∀ v ∈ (Builtin.zeroCells (Value.agg #[.int .i64 0, .int .i64 0, .int .i64 0]).cells N).toList, v.oneCell' = true := by
      intro v hv
      simp [Builtin.zeroCells, Value.cells] at hv
      obtain ⟨k, hk, rfl⟩ := hv
      have : k % 3 < 3 := Nat.mod_lt _ (by omega)
      obtain h | h | h : k % 3 = 0 ∨ k % 3 = 1 ∨ k % 3 = 2 := by omega
      all_goals (simp only [h]; rfl)
    have hst := run_storeCells_at (P := Tryd.prog) g (i * 3) 51 _ 0 cur w hg hfit hone
    obtain ⟨m, rfl⟩ : ∃ m, N = m + 1 := ⟨N - 1, by omega⟩
    generalize hZ : (Builtin.zeroCells (Value.agg #[.int .i64 0, .int .i64 0, .int .i64 0]).cells (m + 1)).toList = Z at *
    refine ⟨w.setRow g (cur.toList.take (i * 3 + 0) ++ Z ++ cur.toList.drop (i * 3 + 0 + Z.length)).toArray, ?_, ?_, ?_⟩
    · simp [Builtin.clear_, run_underlying ht, zeroValue, typeInfo, hinf, hz, hZ, hst]
    · have hil : (M.take i).length = i := by rw [List.length_take]; omega
      have hfl : ∀ l : List Tm, (l.flatMap Tm.cells).length = l.length * 3 := by
        intro l
        induction l with
        | nil => rfl
        | cons t l ih => rw [List.flatMap_cons, List.length_append, ih, List.length_cons]; show 3 + _ = _; omega
      have hft : ∀ (M : List Tm) (i : Nat), (M.flatMap Tm.cells).take (i * 3) = (M.take i).flatMap Tm.cells := by
        intro M
        induction M with
        | nil => intro i; simp
        | cons t M ih =>
          intro i
          cases i with
          | zero => simp
          | succ i =>
            rw [List.flatMap_cons, List.take_succ_cons, List.flatMap_cons, List.take_append]
            have e1 : t.cells.length = 3 := rfl
            rw [e1, List.take_of_length_le (by rw [e1]; omega), show (i + 1) * 3 - 3 = i * 3 by omega, ih i]
      refine ⟨by rw [hfl, hil], .inr ⟨g, cap, _, by rw [hil], hb, setRow_heap w g cur _ _ _ hg, by omega, hcm, ?_, ?_⟩⟩
      · simp only [List.size_toArray, List.length_append, List.length_take, List.length_drop, Array.length_toList]
        omega
      · rw [hil]
        have e2 : (cur.toList.take (i * 3 + 0)).length = i * 3 := by rw [List.length_take, Array.length_toList]; omega
        simp only [List.append_assoc]
        rw [List.take_left' e2, Nat.add_zero, ← hft, ← htake, List.take_take, Nat.min_eq_left (by omega)]
    · exact ⟨rfl, rfl, rfl, by simp [World.setRow], fun k _ hk => setRow_other w g k _ (fun e => hk e)⟩

theorem filter_step {l : List Tm} {j : Nat} (x : Int) (hj : j < l.length) : (l.take (j + 1)).filter (stays x) = (l.take j).filter (stays x) ++ if stays x l[j] = true then [l[j]] else [] := by
  rw [List.take_succ_eq_append_getElem hj, List.filter_append]
  simp only [List.filter_cons, List.filter_nil]
theorem own_cells {w : World} {g cap : Nat} {M : List Tm} (h : OwnTm w (.slice (some ⟨g, 0, none⟩) M.length cap) M) {i : Nat} (hi : i < M.length) :
    (∀ j u, M[i].cells[j]? = some u → w.cell? ⟨g, i * 3 + j, none⟩ = some u) ∧ ∀ k, w.frozen? ⟨g, k, none⟩ = false := by
  obtain ⟨a, c, e, ht, _, _⟩ := h.rows
  simp only [Value.slice.injEq] at e
  obtain ⟨rfl, _, rfl⟩ := e
  obtain ⟨b, off, ha, hc⟩ := ht i hi
  simp only [Option.some.injEq, Addr.mk.injEq] at ha
  obtain ⟨rfl, rfl, _⟩ := ha
  refine ⟨fun j u hj => by have := hc j u hj; rwa [Nat.zero_add] at this, fun k => ?_⟩
  rcases h.2 with ⟨e, _⟩ | ⟨g', cap', cur, e, _, hg, _⟩
  · cases e
  · simp only [Value.slice.injEq, Option.some.injEq, Addr.mk.injEq] at e
    obtain ⟨⟨rfl, _⟩, _, rfl⟩ := e
    simp [World.frozen?, hg]

set_option maxHeartbeats 4000000 in
set_option maxRecDepth 100000 in
theorem del_in (g cap : Nat) (l : List Tm) (x : Int) (c : Nat) (w : World) (hll : l.length ≤ 1000000) (h : OwnTm w (.slice (some ⟨g, 0, none⟩) l.length cap) l) (hc : w.cell? ⟨c, 0, none⟩ = some (.int .i64 x)) (hne : ¬ c = g) :
    Calls Tryd.prog 15 #[.slice (some ⟨g, 0, none⟩) l.length cap, .func (.func 14) #[] #[.pointer (some ⟨c, 0, none⟩)]] w fun e w' =>
      e = .returned (.slice (some ⟨g, 0, none⟩) (l.filter (stays x)).length cap) ∧ OwnTm w' (.slice (some ⟨g, 0, none⟩) (l.filter (stays x)).length cap) (l.filter (stays x)) ∧ Chg (fun k => k = g) w w' := by
  have HO := Lib.hid h
  have HC := Lib.hid hc
  obtain ⟨a', c', he, htm, hlc, _⟩ := h.rows
  simp only [Value.slice.injEq] at he
  obtain ⟨rfl, _, rfl⟩ := he
  have HIX := Lib.hid (idx_any (some ⟨g, 0, none⟩) l cap x c w hll htm hc)
  have hgl : g < w.heap.size := h.lt g rfl
  obtain ⟨F, hF⟩ : ∃ F, F = l.filter (stays x) := ⟨_, rfl⟩
  rw [← hF]
  have HF := Lib.hid hF
  clear h hc htm hF
  go_enter Tryd.func15, Tryd.ntmps15
  go_wp2_with fail
  refine HIX.out.mono ?_
  rintro e w1 ⟨rfl, hc1⟩
  have HO1 := Lib.hid (HO.out.chg hc1 (fun _ _ h => h))
  have HCN := Lib.hid (hc1.cell HC.out (fun h => h))
  have HC1 := Lib.hid hc1
  clear HIX HO hc1
  by_cases hfl : firstGone x l < l.length
  · rw [if_pos hfl]
    have HTK := Lib.hid (firstGone_take x l)
    have HAT := Lib.hid (firstGone_at x l hfl)
    generalize firstGone x l = i0 at *
    have hi0 : ¬ (i0 : Int) = -1 := by omega
    have hbq : ((i0 : Int) == -1) = false := beq_eq_false_iff_ne.2 hi0
    go_wp2_with fail
    clear hbq
    go_loopw [6, 5] (fun jj ii wr => ∃ (wq : World) (j i : Nat) (M : List Tm), wq = wr ∧ jj = .int .i64 j ∧ ii = .int .i64 i ∧ i < j ∧ j ≤ l.length ∧ M.length = l.length ∧ Hid (M.take i = (l.take j).filter (stays x)) ∧ Hid (M.drop j = l.drop j) ∧ OwnTm wr (.slice (some ⟨g, 0, none⟩) M.length cap) M ∧ Chg (fun k => k = g) w wr) (fun jj _ _ => l.length - (RowKit.intOf jj).toNat)
    case atStart =>
      refine ⟨_, i0 + 1, i0, l, rfl, by go_num, rfl, by omega, by omega, rfl, ?_, rfl, HO1.out, HC1.out.weak (fun _ h => h.elim)⟩
      unfold Hid
      rw [filter_step x hfl, HTK.out, HAT.out]
      simp
    case round =>
      obtain ⟨wr, j, i, M, rfl, rfl, rfl, hij, hj, hML, HTA, HDR, ho, hch⟩ := hrel
      have HO2 := Lib.hid ho
      have HC2 := Lib.hid hch
      clear ho hch HO1 HTK HAT
      have HML := Lib.hid hML
      have hiM : i < M.length := by omega
      have hjM : j < l.length → j < M.length := fun h => by omega
      clear hML
      by_cases hjl : j < l.length
      · have hji : (j : Int) < (l.length : Int) := by omega
        obtain ⟨hcj, hfz⟩ := own_cells HO2.out (i := j) (hjM hjl)
        have hMj : M[j]'(hjM hjl) = l[j] := by
          have h1 : (M.drop j)[0]'(by have := hjM hjl; simp; omega) = (l.drop j)[0]'(by simp; omega) := by simp only [HDR.out]
          simpa using h1
        rw [hMj] at hcj
        obtain ⟨t, ht⟩ : ∃ t, t = l[j] := ⟨_, rfl⟩
        rw [← ht] at hcj
        have HTJ := Lib.hid ht
        have y0 := hcj 0 _ rfl
        have y1 := hcj 1 _ rfl
        have y2 := hcj 2 _ rfl
        rw [Nat.add_zero] at y0
        obtain ⟨hci, _⟩ := own_cells HO2.out (i := i) hiM
        have HCI := Lib.hid hci
        have HFZ := Lib.hid hfz
        clear hcj hfz hMj ht hci
        have hal := (Chg.refl Nil wr).alloc (.cells #[.int .i64 (t.at' : Nat), .int .i64 t.id, .int .i64 (t.num : Nat)] 51)
        have hbx := Box.new wr [.int .i64 (t.at' : Nat), .int .i64 t.id, .int .i64 (t.num : Nat)] 51
        have hrc := (HC2.out.cell HC.out (fun e => hne e))
        have hgn := gone_any t x c _ (hal.cell hrc (fun h => h))
        have HAL := Lib.hid hal
        have HBX := Lib.hid hbx
        have hglt : g < wr.heap.size := HO2.out.lt g rfl
        have hbg : ¬ wr.heap.size = g := by omega
        clear hal hbx hrc hglt
        by_cases hb : (t.id == x) = true
        · rw [hb] at hgn
          have HGN := Lib.hid hgn
          have HST : Hid (stays x t = false) := by unfold Hid stays; rw [hb]; rfl
          clear hgn hb
          go_wp2_with fail
          refine HGN.out.mono ?_
          rintro e w3 ⟨rfl, hc3⟩
          have HC3 := Lib.hid ((HC2.out.trans HAL.out (fun _ h => h.elim)).trans hc3 (fun _ h => h.elim))
          have HO3 := Lib.hid ((HO2.out.chg HAL.out (fun _ _ h => h)).chg hc3 (fun _ _ h => h))
          clear hc3 HC2 HO2
          go_wp2_with fail
          go_roundw
          case rel =>
            refine ⟨_, j + 1, i, M, rfl, by go_num, by first | trivial | rfl, by omega, by omega, HML.out, ?_, ?_, HO3.out, HC3.out⟩
            · unfold Hid
              rw [filter_step x hjl, ← HTJ.out, HST.out, HTA.out]
              simp
            · unfold Hid
              rw [← List.drop_drop, ← List.drop_drop, HDR.out]
          case measure => simp [RowKit.intOf]; omega
        · have hb' : (t.id == x) = false := by simpa using hb
          rw [hb'] at hgn
          have HGN := Lib.hid hgn
          have HST : Hid (stays x t = true) := by unfold Hid stays; rw [hb']; rfl
          clear hgn hb hb'
          go_wp2_with fail
          refine HGN.out.mono ?_
          rintro e w3 ⟨rfl, hc3⟩
          have HC3 := Lib.hid ((HC2.out.trans HAL.out (fun _ h => h.elim)).trans hc3 (fun _ h => h.elim))
          have HO3 := Lib.hid ((HO2.out.chg HAL.out (fun _ _ h => h)).chg hc3 (fun _ _ h => h))
          have hbx3 := HBX.out.chg hc3 (fun h => h)
          have z0 := hbx3.cell (j := 0) rfl
          have z1 := hbx3.cell (j := 1) rfl
          have z2 := hbx3.cell (j := 2) rfl
          obtain ⟨hci, hfz⟩ := own_cells HO3.out (i := i) hiM
          have v0 := hci 0 _ rfl
          have v1 := hci 1 _ rfl
          have v2 := hci 2 _ rfl
          rw [Nat.add_zero] at v0
          have f0 := hfz (i * 3)
          have f1 := hfz (i * 3 + 1)
          have f2 := hfz (i * 3 + 2)
          have hilt : i < M.length := hiM
          have HO4 := Lib.hid (own_set HO3.out hilt t)
          have HC4 := Lib.hid ((((HC3.out.setCell (p := ⟨g, i * 3, none⟩) (.inl rfl) (.int .i64 (t.at' : Nat))).setCell (p := ⟨g, i * 3 + 1, none⟩) (.inl rfl) (.int .i64 t.id))).setCell (p := ⟨g, i * 3 + 2, none⟩) (.inl rfl) (.int .i64 (t.num : Nat)))
          have hil2 : (i : Int) < (l.length : Int) := by omega
          clear hc3 HC2 HO2 hci hfz hbx3 HBX y0 y1 y2 HAL
          go_wp2_with fail
          go_roundw
          case rel =>
            refine ⟨_, j + 1, i + 1, M.set i t, rfl, by go_num, by go_num, by omega, by omega, by rw [List.length_set, HML.out], ?_, ?_, by rw [List.length_set]; exact HO4.out, HC4.out⟩
            · unfold Hid
              rw [filter_step x hjl, ← HTJ.out, HST.out, if_pos rfl, ← HTA.out, List.take_succ_eq_append_getElem (by rw [List.length_set]; exact hilt), List.take_set, List.set_eq_of_length_le (by rw [List.length_take]; omega)]
              simp
            · unfold Hid
              rw [List.drop_set_of_lt (by omega), ← List.drop_drop, ← List.drop_drop, HDR.out]
          case measure => simp [RowKit.intOf]; omega
      · have hji : ¬ (j : Int) < (l.length : Int) := by omega
        obtain rfl : j = l.length := by omega
        rw [List.take_length] at HTA
        obtain ⟨w4, hrun, ho4, hc4⟩ := clear_tms HO2.out hiM 0 (cap - i)
        have hFi : F.length = i := by
          rw [HF.out, ← HTA.out, List.length_take]
          omega
        have HFM : Hid (F = M.take i) := by unfold Hid; rw [HF.out, ← HTA.out]
        rw [HML.out] at hrun
        have HO4 := Lib.hid ho4
        have HC4 := Lib.hid (HC2.out.trans hc4 (fun _ h => .inl h))
        have HFI := Lib.hid hFi
        have hic : i ≤ cap := by omega
        have hil : i < l.length := by omega
        clear ho4 hc4 hFi
        go_wp2_with fail
        go_ret
        rw [HFI.out]
        exact ⟨rfl, by rw [HFM.out]; exact HO4.out, HC4.out⟩
  · rw [if_neg hfl]
    have hall : firstGone x l = l.length := by have := firstGone_le x l; omega
    have HFE : Hid (F = l) := by
      unfold Hid
      rw [HF.out]
      have := firstGone_take x l
      rwa [hall, List.take_length] at this
    go_wp2_with fail
    go_ret
    rw [HFE.out]
    exact ⟨rfl, HO1.out, HC1.out.weak (fun _ h => h.elim)⟩

/-- Any slice of timers of the call's own. -/
theorem del_any {w : World} {v : Value} {l : List Tm} (h : OwnTm w v l) (x : Int) (c : Nat) (hll : l.length ≤ 1000000) (hc : w.cell? ⟨c, 0, none⟩ = some (.int .i64 x)) (hne : v.ownBlock ≠ some c) :
    Calls Tryd.prog 15 #[v, .func (.func 14) #[] #[.pointer (some ⟨c, 0, none⟩)]] w fun e w' =>
      ∃ a n k, e = .returned (.slice a n k) ∧ OwnTm w' (.slice a n k) (l.filter (stays x)) ∧ Chg (Own v) w w' ∧ (Value.slice a n k).ownBlock = v.ownBlock := by
  rcases h.2 with ⟨rfl, hn⟩ | ⟨g, cap, cur, rfl, hbg, hg, hnc, hcm, hcs, htake⟩
  · have hl : l = [] := List.eq_nil_of_length_eq_zero hn
    subst hl
    have HIX : Hid (Calls Tryd.prog 20 #[.slice none 0 0, .func (.func 14) #[] #[.pointer (some ⟨c, 0, none⟩)]] w fun e w' => e = .returned (.int .i64 (-1)) ∧ Chg Nil w w') :=
      idx_any none [] 0 x c w (by simp) (fun i hi => by simp at hi) hc
    have HOW := Lib.hid h
    clear h hc
    go_enter Tryd.func15, Tryd.ntmps15
    go_wp2_with fail
    refine HIX.out.mono ?_
    rintro e w1 ⟨rfl, hc1⟩
    go_wp2_with fail
    go_ret
    exact ⟨none, 0, 0, rfl, OwnTm.nil _, hc1.weak (fun _ h => h.elim), rfl⟩
  · refine (del_in g cap l x c w hll h hc (fun e => hne (by rw [e]; rfl))).mono ?_
    rintro e w' ⟨rfl, ho, hch⟩
    exact ⟨_, _, _, rfl, ho, hch.weak (fun k hk => .inl (by rw [hk]; rfl)), rfl⟩
end Go.Proofs.YtdahefphohkhlaaDoor
