/-
  What WheelOnce is about: pick, its timers, who was told. And small facts on rows of truth values.
-/
import Derived.Test.YtdahefphohkhlaaWhTurnW
import Derived.Laws.MakeOwn
import Derived.Laws.OwnMore
set_option linter.unusedSimpArgs false
set_option linter.unusedVariables false
namespace Go.Proofs.Ytdahefphohkhlaa
open Go.RowKit Go.Maps

/-- A number within n. -/
def pickN (a : Int) (n : Nat) : Nat := (a % 18446744073709551616 % (n : Int)).toNat
theorem pickN_lt {a : Int} {n : Nat} (h : 0 < n) : pickN a n < n := by
  unfold pickN
  have h1 : 0 ≤ a % 18446744073709551616 % (n : Int) := Int.emod_nonneg _ (by omega)
  have h2 : a % 18446744073709551616 % (n : Int) < n := Int.emod_lt_of_pos _ (by omega)
  omega
theorem pick_eq {a : Int} {n : Nat} (h : 0 < n) (hn : n ≤ 4611686018427387904) : wrap64 ((IntKind.u64.wrap a).tmod (n : Int)) = (pickN a n : Nat) := by
  rw [IntKind.wrap_u64, Int.tmod_eq_emod_of_nonneg (Int.emod_nonneg _ (by omega))]
  have h1 : 0 ≤ a % 18446744073709551616 % (n : Int) := Int.emod_nonneg _ (by omega)
  have h2 : a % 18446744073709551616 % (n : Int) < n := Int.emod_lt_of_pos _ (by omega)
  unfold pickN
  rw [Int.toNat_of_nonneg h1]
  generalize a % 18446744073709551616 % (n : Int) = x at *
  unfold wrap64
  omega
set_option maxRecDepth 100000 in
theorem pick_any (a : Int) (n : Nat) (w : World) (h0 : 0 < n) (hn : n ≤ 4611686018427387904) :
    Calls Try.prog 5 #[.int .i64 a, .int .i64 n] w fun e w' => e = .returned (.int .i64 (pickN a n : Nat)) ∧ w = w' := by
  have HP := Lib.hid (pick_eq (a := a) h0 hn)
  have h0i : (0 : Int) < (n : Int) := by omega
  go_enter Try.func5, Try.ntmps5
  go_wp2
  go_ret
  exact ⟨by rw [← HP.out]; rfl, rfl⟩
def pickM (a : Int) : Nat := pickN a 1099511627777
theorem pickM_le (a : Int) : pickM a ≤ 1099511627776 := by have := pickN_lt (a := a) (n := 1099511627777) (by omega); unfold pickM; omega
theorem pickM_any (a : Int) (w : World) : Calls Try.prog 5 #[.int .i64 a, .int .i64 1099511627777] w fun e w' => e = .returned (.int .i64 (pickM a : Nat)) ∧ w = w' :=
  pick_any a 1099511627777 w (by omega) (by omega)

/-- The law's timers: the k-th is due at what is picked of the k-th number. -/
def tmOf (times : List Int) (k : Nat) : Tm := ⟨pickM (times.getD k 0), (k : Int), k + 1⟩
def tmsOf (times : List Int) (n : Nat) : List Tm := (List.range n).map (tmOf times)
theorem tmsOf_snoc (times : List Int) (n : Nat) : tmsOf times (n + 1) = tmsOf times n ++ [tmOf times n] := by unfold tmsOf; rw [List.range_succ, List.map_append]; rfl
theorem tmsOf_mem {times : List Int} {n : Nat} {t : Tm} (h : t ∈ tmsOf times n) : ∃ k, k < n ∧ t = tmOf times k := by
  unfold tmsOf at h
  obtain ⟨k, hk, rfl⟩ := List.mem_map.1 h
  exact ⟨k, List.mem_range.1 hk, rfl⟩
theorem tmsOf_len (times : List Int) (n : Nat) : (tmsOf times n).length = n := by unfold tmsOf; simp
theorem tmsOf_ids (times : List Int) (n : Nat) : ((tmsOf times n).map Tm.id).Nodup := by
  unfold tmsOf
  rw [List.map_map]
  refine List.pairwise_map.2 (List.nodup_range.imp fun {x y} h e => h ?_)
  simp [tmOf] at e
  omega

/-- Who is left when time has come to now, i times. -/
def restOf (times : List Int) (n i now : Nat) : List Tm := if i = 0 then tmsOf times n else (tmsOf times n).filter fun t => decide (now < t.at')
/-- Was the k-th told? -/
def toldK (times : List Int) (i now k : Nat) : Bool := decide (0 < i ∧ pickM (times.getD k 0) ≤ now)
theorem restOf_next (times : List Int) (n i now tt : Nat) (h : now ≤ tt) : (restOf times n i now).filter (fun t => decide (tt < t.at')) = restOf times n (i + 1) tt := by
  unfold restOf
  rw [if_neg (by omega : ¬ i + 1 = 0)]
  by_cases hi : i = 0
  · rw [if_pos hi]
  · rw [if_neg hi, List.filter_filter]
    congr 1
    funext t
    by_cases h1 : tt < t.at'
    · simp [h1]; omega
    · simp [h1]

theorem restOf_mem {times : List Int} {n i now : Nat} {t : Tm} (h : t ∈ restOf times n i now) : ∃ k, k < n ∧ t = tmOf times k := by
  unfold restOf at h
  split at h
  · exact tmsOf_mem h
  · exact tmsOf_mem (List.mem_filter.1 h).1
theorem restOf_len (times : List Int) (n i now : Nat) : (restOf times n i now).length ≤ n := by
  unfold restOf
  split
  · rw [tmsOf_len]; exact Nat.le_refl _
  · exact Nat.le_trans (List.length_filter_le _ _) (by rw [tmsOf_len]; exact Nat.le_refl _)
theorem restOf_ids (times : List Int) (n i now : Nat) : ((restOf times n i now).map Tm.id).Nodup := by
  unfold restOf
  split
  · exact tmsOf_ids _ _
  · exact (List.Sublist.map _ List.filter_sublist).nodup (tmsOf_ids _ _)
theorem restOf_ahead {times : List Int} {n i now : Nat} {t : Tm} (h : t ∈ restOf times n i now) (hi : 0 < i) : now < t.at' := by
  unfold restOf at h
  rw [if_neg (by omega)] at h
  simpa using (List.mem_filter.1 h).2
theorem tmsOf_in {times : List Int} {n k : Nat} (h : k < n) : tmOf times k ∈ tmsOf times n := List.mem_map.2 ⟨k, List.mem_range.2 h, rfl⟩

/-- The last time told, k of them told. -/
def lastOf (S : List Tm) (k : Nat) : Int := if k = 0 then -1 else ((S.getD (k - 1) ⟨0, 0, 0⟩).at' : Int)
theorem last_le {S : List Tm} {k : Nat} (h : S.Pairwise (fun x y => ¬ ltT y x)) (hk : k < S.length) : lastOf S k ≤ (S[k].at' : Int) := by
  unfold lastOf
  by_cases h0 : k = 0
  · rw [if_pos h0]; omega
  · rw [if_neg h0]
    have h1 : k - 1 < S.length := by omega
    rw [List.getD_eq_getElem?_getD, List.getElem?_eq_getElem h1, Option.getD_some]
    have := List.pairwise_iff_getElem.1 h (k - 1) k h1 hk (by omega)
    unfold ltT at this
    omega
theorem last_next {S : List Tm} {k : Nat} (hk : k < S.length) : lastOf S (k + 1) = (S[k].at' : Int) := by
  unfold lastOf
  rw [if_neg (by omega), Nat.add_sub_cancel, List.getD_eq_getElem?_getD, List.getElem?_eq_getElem hk, Option.getD_some]
/-- Who was told, k of the last ones told. -/
def seenF (times : List Int) (i now : Nat) (S : List Tm) (k j : Nat) : Bool := toldK times i now j || (S.take k).any fun t => t.id == (j : Int)
theorem seen_zero (times : List Int) (i now : Nat) (S : List Tm) : seenF times i now S 0 = toldK times i now := by
  funext j
  unfold seenF
  simp
theorem seen_next {times : List Int} {i now m k : Nat} {S : List Tm} (hk : k < S.length) (hm : S[k].id = (m : Int)) : (fun j => if j = m then true else seenF times i now S k j) = seenF times i now S (k + 1) := by
  funext j
  unfold seenF
  rw [List.take_succ_eq_append_getElem hk, List.any_append]
  by_cases e : j = m
  · subst e
    simp [hm]
  · rw [if_neg e]
    have : ¬ (m : Int) = (j : Int) := by omega
    have hb : ((m : Int) == (j : Int)) = false := beq_eq_false_iff_ne.2 this
    simp [hm, hb]
theorem seen_all {times : List Int} {n i now tt : Nat} {S : List Tm} (hS : List.Perm S ((restOf times n i now).filter fun t => decide (t.at' ≤ tt))) (h : now ≤ tt) {j : Nat} (hj : j < n) :
    seenF times i now S S.length j = toldK times (i + 1) tt j := by
  unfold seenF
  rw [List.take_length]
  have hany : (S.any fun t => t.id == (j : Int)) = true ↔ tmOf times j ∈ restOf times n i now ∧ pickM (times.getD j 0) ≤ tt := by
    rw [List.any_eq_true]
    constructor
    · rintro ⟨t, ht, he⟩
      have h1 := List.mem_filter.1 (hS.mem_iff.1 ht)
      obtain ⟨k, hk, rfl⟩ := restOf_mem h1.1
      have : k = j := by
        have : ((k : Nat) : Int) = (j : Int) := by simpa [tmOf] using he
        omega
      subst this
      exact ⟨h1.1, by simpa [tmOf] using h1.2⟩
    · rintro ⟨h1, h2⟩
      exact ⟨_, hS.mem_iff.2 (List.mem_filter.2 ⟨h1, by simpa [tmOf] using h2⟩), by simp [tmOf]⟩
  have hin : tmOf times j ∈ restOf times n i now ↔ (i = 0 ∨ now < pickM (times.getD j 0)) := by
    unfold restOf
    by_cases hi : i = 0
    · rw [if_pos hi]; simp [hi, tmsOf_in hj]
    · rw [if_neg hi, List.mem_filter]
      have h1 : (tmOf times j).at' = pickM (times.getD j 0) := rfl
      simp only [tmsOf_in hj, h1, decide_eq_true_eq, hi, true_and, false_or]
  unfold toldK
  rw [Bool.eq_iff_iff, Bool.or_eq_true, hany, hin]
  simp only [decide_eq_true_eq]
  omega
/-- The next one was not yet told. -/
theorem seen_not {times : List Int} {n i now tt m k : Nat} {S : List Tm} (hS : List.Perm S ((restOf times n i now).filter fun t => decide (t.at' ≤ tt))) (hk : k < S.length) (hm : S[k] = tmOf times m) : seenF times i now S k m = false := by
  unfold seenF
  have h1 := (List.mem_filter.1 (hS.mem_iff.1 (List.getElem_mem hk))).1
  rw [Bool.or_eq_false_iff]
  constructor
  · unfold toldK
    simp only [decide_eq_false_iff_not]
    rintro ⟨a1, a2⟩
    have := restOf_ahead h1 a1
    rw [hm] at this
    have this : now < pickM (times.getD m 0) := this
    omega
  · have hnd : (S.map Tm.id).Nodup := (hS.map Tm.id).nodup_iff.2 ((List.Sublist.map _ List.filter_sublist).nodup (restOf_ids _ _ _ _))
    rw [List.any_eq_false]
    intro t ht he
    have h2 : S = S.take k ++ S[k] :: S.drop (k + 1) := by rw [← List.drop_eq_getElem_cons hk, List.take_append_drop]
    rw [h2, List.map_append, List.map_cons] at hnd
    have h3 := (List.nodup_append.1 hnd).2.2 t.id (List.mem_map.2 ⟨t, ht, rfl⟩) S[k].id (by simp)
    rw [hm] at h3
    exact h3 (by simpa [tmOf] using he)
/-- A row of truth values. -/
def bools (n : Nat) (f : Nat → Bool) : List Value := (List.range n).map fun k => .bool (f k)
theorem bools_get {n k : Nat} (f : Nat → Bool) (h : k < n) : (bools n f)[k]? = some (.bool (f k)) := by unfold bools; rw [List.getElem?_map, List.getElem?_range h]; rfl
theorem bools_set {n k : Nat} (f : Nat → Bool) (b : Bool) : (bools n f).set k (.bool b) = bools n (fun j => if j = k then b else f j) := by
  apply List.ext_getElem?
  intro i
  rw [List.getElem?_set]
  unfold bools
  simp only [List.getElem?_map, List.length_map, List.length_range]
  by_cases hi : i < n
  · rw [List.getElem?_range hi]
    by_cases e : k = i
    · subst e; simp [hi]
    · rw [if_neg e]; simp [Ne.symm e]
  · rw [List.getElem?_eq_none (by simp; omega)]
    by_cases e : k = i
    · subst e; simp [hi]
    · simp [e]
theorem bools_congr {n : Nat} {f h : Nat → Bool} (e : ∀ k, k < n → f k = h k) : bools n f = bools n h := by
  unfold bools
  exact List.map_congr_left fun k hk => by rw [e k (List.mem_range.1 hk)]
theorem Source.ints {P : Program} {w : World} {a : Option Addr} {l : List Int} {c : Nat} (hb : IntsAt w a l) : Source P w 1 (.slice a l.length c) l.length (l.map ival) := by
  rcases a with _ | a
  · have : l = [] := by
      cases l with
      | nil => rfl
      | cons x l => obtain ⟨b, off, h, _⟩ := hb 0 (by simp); cases h
    subst this
    exact Source.nil
  · refine Source.slice (by simp) (fun j u hj => ?_) (by intro u hu; obtain ⟨x, _, rfl⟩ := List.mem_map.1 hu; rfl)
    rw [List.getElem?_map] at hj
    obtain ⟨c, hc, rfl⟩ := Option.map_eq_some_iff.1 hj
    obtain ⟨hjl, rfl⟩ := List.getElem?_eq_some_iff.1 hc
    obtain ⟨b, off, ha, hcell⟩ := hb j hjl
    obtain rfl := Option.some.inj ha
    have e : (⟨b, off, none⟩ : Addr).add j = ⟨b, off + j, none⟩ := by unfold Addr.add; split <;> simp_all
    rw [e]
    exact hcell
theorem make_bools (n : Nat) (w : World) (hn : n ≤ 1000000) :
    ∃ w', (Instr.makeSlice 33 (.int .i64 (n : Int)) (.int .i64 (n : Int))).run Try.prog w = .ok (.slice (some ⟨w.heap.size, 0, none⟩) n n) w' ∧ Chg Nil w w' ∧ w'.heap.size = w.heap.size + 1 ∧ Box w' w.heap.size (bools n fun _ => false) 4 := by
  have h : (Try.prog.info? 4).map (fun i => (i.zero, i.size, i.bytes)) = some (some (.bool false), 1, 1) := by kernel_rfl
  obtain ⟨i, hi, hz, h1, h2⟩ := info_parts h
  have hr := run_makeSlice (P := Try.prog) w 33 4 i (.bool false) Try.underlying33 hi hz .i64 .i64 (n : Int) (n : Int) (by omega) (by omega) (by rw [h1]; omega) (by rw [h2]; omega) (by omega)
  have e1 : ((n : Int)).toNat = n := by omega
  rw [e1, h1, Nat.mul_one] at hr
  have hcs : (Value.bool false).cells = #[.bool false] := rfl
  rw [hcs] at hr
  refine ⟨_, hr, (Chg.refl _ _).alloc _, by simp, ?_⟩
  have hb : (bools n fun _ => false) = List.replicate n (.bool false) := by
    apply List.ext_getElem?
    intro k
    by_cases hk : k < n
    · rw [bools_get _ hk, List.getElem?_replicate, if_pos hk]
    · rw [List.getElem?_eq_none (by unfold bools; simp; omega), List.getElem?_replicate, if_neg hk]
  rw [hb, ← toList_madeCells_one]
  unfold Box
  rw [Array.toArray_toList]
  exact heap_alloc_new w _
end Go.Proofs.Ytdahefphohkhlaa
