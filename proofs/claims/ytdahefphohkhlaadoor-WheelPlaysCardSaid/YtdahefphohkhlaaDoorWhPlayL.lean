/-
  What WheelPlays is about, plainly: its own list of timers, in the order of their adding; who is taken out next.
-/
import Derived.Test.YtdahefphohkhlaaDoorWhIntL
set_option linter.unusedSimpArgs false
set_option linter.unusedVariables false
namespace Go.Proofs.YtdahefphohkhlaaDoor
open Go.RowKit Go.Maps

/-- The list: numbers rise, ids stand once. -/
structure Lst (L : List Tm) (added : Nat) : Prop where
  nums : L.Pairwise (fun x y => x.num < y.num)
  most : ∀ t ∈ L, t.num ≤ added
  ids : (L.map Tm.id).Nodup
theorem Lst.nil (n : Nat) : Lst [] n := ⟨List.Pairwise.nil, by simp, by simp⟩
theorem Lst.sub {L L' : List Tm} {n : Nat} (h : Lst L n) (hs : L'.Sublist L) : Lst L' n :=
  ⟨h.nums.sublist hs, fun t ht => h.most t (hs.subset ht), (hs.map _).nodup h.ids⟩
theorem Lst.mono {L : List Tm} {n m : Nat} (h : Lst L n) (hn : n ≤ m) : Lst L m := ⟨h.nums, fun t ht => Nat.le_trans (h.most t ht) hn, h.ids⟩
theorem Lst.snoc {L : List Tm} {n : Nat} (h : Lst L n) {t : Tm} (hn : t.num = n + 1) (hi : t.id ∉ L.map Tm.id) : Lst (L ++ [t]) (n + 1) := by
  refine ⟨?_, ?_, ?_⟩
  · rw [List.pairwise_append]
    refine ⟨h.nums, by simp, fun x hx y hy => ?_⟩
    simp at hy
    subst hy
    have := h.most x hx
    omega
  · intro x hx
    rcases List.mem_append.1 hx with g | g
    · have := h.most x g; omega
    · simp at g; subst g; omega
  · rw [List.map_append, List.nodup_append]
    refine ⟨h.ids, by simp, fun y hy z hz e => ?_⟩
    simp at hz
    subst hz
    subst e
    exact hi hy
/-- Two of one number are one. -/
theorem Lst.inj {L : List Tm} {n : Nat} (h : Lst L n) {a b : Tm} (ha : a ∈ L) (hb : b ∈ L) (e : a.num = b.num) : a = b := by
  obtain ⟨i, hi, rfl⟩ := List.getElem_of_mem ha
  obtain ⟨j, hj, rfl⟩ := List.getElem_of_mem hb
  rcases Nat.lt_trichotomy i j with g | g | g
  · have := List.pairwise_iff_getElem.1 h.nums i j hi hj g
    omega
  · subst g; rfl
  · have := List.pairwise_iff_getElem.1 h.nums j i hj hi g
    omega
/-- Two orders of the same timers by their times are one. -/
theorem sorted_one {L : List Tm} {n : Nat} (h : Lst L n) {A B : List Tm} (hA : ∀ t ∈ A, t ∈ L) (hp : List.Perm A B) (sA : A.Pairwise (fun x y => ¬ ltT y x)) (sB : B.Pairwise (fun x y => ¬ ltT y x)) : A = B := by
  refine List.Perm.eq_of_pairwise (fun a b ha hb h1 h2 => ?_) sA sB hp
  unfold ltT at h1 h2
  exact h.inj (hA a ha) (hA b (hp.mem_iff.2 hb)) (by omega)

theorem eraseIdx_perm {α : Type} : ∀ {l : List α} {i : Nat} (h : i < l.length), List.Perm l (l[i] :: l.eraseIdx i)
  | [], i, h => by simp at h
  | a :: l, 0, h => List.Perm.refl _
  | a :: l, i + 1, h => by
    rw [List.eraseIdx_cons_succ, List.getElem_cons_succ]
    exact ((eraseIdx_perm (by simpa using h)).cons a).trans (List.Perm.swap _ _ _)
theorem eraseIdx_eq {α : Type} {l : List α} {i : Nat} (h : i < l.length) : l.eraseIdx i = l.take i ++ l.drop (i + 1) := List.eraseIdx_eq_take_drop_succ l i

/-! ### who has an id -/
/-- The place of an id in the list's first j (−1: nowhere). -/
def placeOf (L : List Tm) (x : Int) (j : Nat) : Int := if (L.take j).any (fun t => t.id == x) then ((L.findIdx fun t => t.id == x : Nat) : Int) else -1
theorem place_zero (L : List Tm) (x : Int) : placeOf L x 0 = -1 := by unfold placeOf; simp
theorem place_hit {L : List Tm} {n : Nat} (h : Lst L n) {x : Int} {j : Nat} (hj : j < L.length) (hx : L[j].id = x) : placeOf L x (j + 1) = (j : Int) := by
  unfold placeOf
  have h1 : (L.take (j + 1)).any (fun t => t.id == x) = true := by
    rw [List.take_succ_eq_append_getElem hj, List.any_append]
    simp [hx]
  rw [if_pos h1]
  have h2 : L.findIdx (fun t => t.id == x) = j := by
    rw [List.findIdx_eq hj]
    refine ⟨by simp [hx], fun i hi => ?_⟩
    have hne : (L.map Tm.id)[i]'(by simp; omega) ≠ (L.map Tm.id)[j]'(by simpa using hj) := fun e => by
      have := List.pairwise_iff_getElem.1 h.ids i j (by simp; omega) (by simpa using hj) hi
      exact this e
    simp only [List.getElem_map] at hne
    rw [beq_eq_false_iff_ne]
    rw [← hx]
    exact hne
  rw [h2]
theorem place_miss {L : List Tm} {x : Int} {j : Nat} (hj : j < L.length) (hx : ¬ L[j].id = x) : placeOf L x (j + 1) = placeOf L x j := by
  unfold placeOf
  have : (L.take (j + 1)).any (fun t => t.id == x) = (L.take j).any (fun t => t.id == x) := by
    rw [List.take_succ_eq_append_getElem hj, List.any_append]
    have hb : (L[j].id == x) = false := beq_eq_false_iff_ne.2 hx
    simp [hb]
  rw [this]
/-- Nowhere, or at a place where it is. -/
theorem place_end (L : List Tm) (x : Int) : (x ∉ L.map Tm.id ∧ placeOf L x L.length = -1) ∨ (x ∈ L.map Tm.id ∧ ∃ k, ∃ h : k < L.length, L[k].id = x ∧ placeOf L x L.length = (k : Int)) := by
  unfold placeOf
  rw [List.take_length]
  by_cases hb : L.any (fun t => t.id == x) = true
  · right
    rw [if_pos hb]
    obtain ⟨t, ht, he⟩ := List.any_eq_true.1 hb
    have hlt : L.findIdx (fun t => t.id == x) < L.length := List.findIdx_lt_length_of_exists ⟨t, ht, he⟩
    refine ⟨List.mem_map.2 ⟨t, ht, by simpa using he⟩, _, hlt, ?_, rfl⟩
    have := List.findIdx_getElem (w := hlt) (p := fun t : Tm => t.id == x)
    simpa using this
  · left
    rw [if_neg hb]
    refine ⟨fun h => hb ?_, rfl⟩
    obtain ⟨t, ht, he⟩ := List.mem_map.1 h
    exact List.any_eq_true.2 ⟨t, ht, by simpa using he⟩
theorem filter_erase {L : List Tm} {n : Nat} (h : Lst L n) {k : Nat} (hk : k < L.length) : L.filter (fun t => !(t.id == L[k].id)) = L.eraseIdx k := by
  have hd := h.ids
  have e : L = L.take k ++ L[k] :: L.drop (k + 1) := by rw [← List.drop_eq_getElem_cons hk, List.take_append_drop]
  rw [eraseIdx_eq hk]
  have hne1 : ∀ t ∈ L.take k, (t.id == L[k].id) = false := fun t ht => by
    rw [e, List.map_append, List.map_cons] at hd
    have := (List.nodup_append.1 hd).2.2 t.id (List.mem_map.2 ⟨t, ht, rfl⟩) L[k].id (by simp)
    exact beq_eq_false_iff_ne.2 this
  have hne2 : ∀ t ∈ L.drop (k + 1), (t.id == L[k].id) = false := fun t ht => by
    rw [e, List.map_append, List.map_cons] at hd
    have h2 := (List.nodup_append.1 hd).2.1
    have := (List.nodup_cons.1 h2).1
    refine beq_eq_false_iff_ne.2 fun e2 => this ?_
    rw [← e2]
    exact List.mem_map.2 ⟨t, ht, rfl⟩
  generalize L[k] = u at *
  conv => lhs; rw [e]
  rw [List.filter_append, List.filter_cons]
  rw [List.filter_eq_self.2 (fun t ht => by rw [hne1 t ht]; rfl), List.filter_eq_self.2 (fun t ht => by rw [hne2 t ht]; rfl)]
  simp

/-! ### who is next -/
/-- The first of the least that are due, among the list's first j (−1: nobody). -/
def Best (L : List Tm) (now : Nat) (j : Nat) (b : Int) : Prop :=
  (b = -1 ∧ ∀ i (h : i < L.length), i < j → now < L[i].at') ∨
  ∃ k, ∃ h : k < L.length, k < j ∧ b = (k : Int) ∧ L[k].at' ≤ now ∧ ∀ i (h : i < L.length), i < j → L[i].at' ≤ now → L[k].at' < L[i].at' ∨ (L[k].at' = L[i].at' ∧ k ≤ i)
theorem best_zero (L : List Tm) (now : Nat) : Best L now 0 (-1) := .inl ⟨rfl, fun _ _ h => by omega⟩
theorem best_late {L : List Tm} {now j : Nat} {b : Int} (h : Best L now j b) (hj : j < L.length) (ha : ¬ L[j].at' ≤ now) : Best L now (j + 1) b := by
  rcases h with ⟨rfl, h⟩ | ⟨k, hk, h1, rfl, h2, h3⟩
  · refine .inl ⟨rfl, fun i hi hij => ?_⟩
    by_cases e : i = j
    · subst e; omega
    · exact h i hi (by omega)
  · refine .inr ⟨k, hk, by omega, rfl, h2, fun i hi hij hia => ?_⟩
    by_cases e : i = j
    · subst e; exact absurd hia ha
    · exact h3 i hi (by omega) hia
theorem best_first {L : List Tm} {now j : Nat} (h : Best L now j (-1)) (hj : j < L.length) (ha : L[j].at' ≤ now) : Best L now (j + 1) (j : Int) := by
  rcases h with ⟨_, h⟩ | ⟨k, hk, h1, e, _⟩
  · refine .inr ⟨j, hj, by omega, rfl, ha, fun i hi hij hia => ?_⟩
    by_cases e : i = j
    · subst e; exact .inr ⟨rfl, Nat.le_refl _⟩
    · have := h i hi (by omega); omega
  · omega
theorem best_less {L : List Tm} {now j k : Nat} (h : Best L now j (k : Int)) (hk : k < L.length) (hj : j < L.length) (ha : L[j].at' ≤ now) (hl : L[j].at' < L[k].at') : Best L now (j + 1) (j : Int) := by
  rcases h with ⟨e, _⟩ | ⟨k', hk', h1, e, h2, h3⟩
  · omega
  · obtain rfl : k' = k := by omega
    refine .inr ⟨j, hj, by omega, rfl, ha, fun i hi hij hia => ?_⟩
    by_cases e : i = j
    · subst e; exact .inr ⟨rfl, Nat.le_refl _⟩
    · have := h3 i hi (by omega) hia; omega
theorem best_stays {L : List Tm} {now j k : Nat} (h : Best L now j (k : Int)) (hk : k < L.length) (hj : j < L.length) (hl : ¬ L[j].at' < L[k].at') : Best L now (j + 1) (k : Int) := by
  rcases h with ⟨e, _⟩ | ⟨k', hk', h1, e, h2, h3⟩
  · omega
  · obtain rfl : k' = k := by omega
    refine .inr ⟨k', hk', by omega, rfl, h2, fun i hi hij hia => ?_⟩
    by_cases e : i = j
    · subst e; omega
    · exact h3 i hi (by omega) hia
theorem best_place {L : List Tm} {now j : Nat} {b : Int} (h : Best L now j b) : b = -1 ∨ ∃ k : Nat, b = (k : Int) ∧ k < L.length := by
  rcases h with ⟨e, _⟩ | ⟨k, hk, _, e, _⟩
  · exact .inl e
  · exact .inr ⟨k, e, hk⟩

/-- Of the list L those of W were told, in order; M is left. -/
structure Told (L W M : List Tm) (now n : Nat) : Prop where
  perm : List.Perm (W ++ M) L
  lst : Lst M n
  due : ∀ t ∈ W, t.at' ≤ now
  sort : W.Pairwise (fun x y => ¬ ltT y x)
  ahead : ∀ t ∈ W, ∀ u ∈ M, u.at' ≤ now → ¬ ltT u t
theorem Told.start {L : List Tm} {n now : Nat} (h : Lst L n) : Told L [] L now n := ⟨List.Perm.refl _, h, by simp, List.Pairwise.nil, by simp⟩
theorem Told.next {L W M : List Tm} {now n k : Nat} (h : Told L W M now n) (hb : Best M now M.length (k : Int)) (hk : k < M.length) : Told L (W ++ [M[k]]) (M.eraseIdx k) now n := by
  rcases hb with ⟨e, _⟩ | ⟨k', hk', _, e, h2, h3⟩
  · omega
  obtain rfl : k' = k := by omega
  have hmem : M[k'] ∈ M := List.getElem_mem hk
  refine ⟨?_, h.lst.sub (List.eraseIdx_sublist _ _), ?_, ?_, ?_⟩
  · rw [List.append_assoc]
    exact (List.Perm.append_left W (eraseIdx_perm hk).symm).trans h.perm
  · intro t ht
    rcases List.mem_append.1 ht with g | g
    · exact h.due t g
    · simp at g; subst g; exact h2
  · rw [List.pairwise_append]
    refine ⟨h.sort, by simp, fun x hx y hy => ?_⟩
    simp at hy
    subst hy
    exact h.ahead x hx _ hmem h2
  · intro t ht u hu hua
    have huM := (List.eraseIdx_sublist M k').subset hu
    rcases List.mem_append.1 ht with g | g
    · exact h.ahead t g u huM hua
    · simp at g
      subst g
      obtain ⟨i, hi, rfl⟩ := List.getElem_of_mem huM
      have := h3 i hi hi hua
      unfold ltT
      rcases this with g1 | ⟨g1, g2⟩
      · omega
      · rcases Nat.lt_or_ge k' i with g3 | g3
        · have := List.pairwise_iff_getElem.1 h.lst.nums k' i hk hi g3
          omega
        · obtain rfl : i = k' := by omega
          omega
/-- When nobody is next, just those that are due were told. -/
theorem Told.done {L W M : List Tm} {now n : Nat} (h : Told L W M now n) (hb : Best M now M.length (-1)) (hL : Lst L n) :
    List.Perm W (L.filter fun t => decide (t.at' ≤ now)) ∧ List.Perm M (L.filter fun t => decide (now < t.at')) := by
  have hM : ∀ t ∈ M, now < t.at' := by
    rcases hb with ⟨_, h⟩ | ⟨k, hk, h1, e, _⟩
    · intro t ht
      obtain ⟨i, hi, rfl⟩ := List.getElem_of_mem ht
      exact h i hi hi
    · omega
  have h1 := h.perm.filter (fun t => decide (t.at' ≤ now))
  have h2 := h.perm.filter (fun t => decide (now < t.at'))
  rw [List.filter_append] at h1 h2
  rw [List.filter_eq_self.2 (fun t ht => by simpa using h.due t ht), List.filter_eq_nil_iff.2 (fun t ht => by have := hM t ht; simp; omega), List.append_nil] at h1
  rw [List.filter_eq_nil_iff.2 (fun t ht => by have := h.due t ht; simp; omega), List.filter_eq_self.2 (fun t ht => by simpa using hM t ht), List.nil_append] at h2
  exact ⟨h1, h2⟩
end Go.Proofs.YtdahefphohkhlaaDoor
