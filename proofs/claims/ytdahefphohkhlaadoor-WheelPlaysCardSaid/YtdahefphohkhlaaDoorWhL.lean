/-
  Wheels within wheels: where a timer lies, and what stays of all when time goes on. Plain Lean: no program in sight.
-/
namespace Go.Proofs.YtdahefphohkhlaaDoor

structure Tm where
  at' : Nat
  id : Int
  num : Nat
deriving DecidableEq

/-- A function turned at one place. -/
def upd {α : Type} (f : Nat → α) (j : Nat) (x : α) : Nat → α := fun k => if k = j then x else f k
theorem upd_same {α : Type} (f : Nat → α) (j : Nat) (x : α) : upd f j x j = x := if_pos rfl
theorem upd_other {α : Type} (f : Nat → α) {j k : Nat} (x : α) (h : k ≠ j) : upd f j x k = f k := if_neg h
theorem upd_upd {α : Type} (f : Nat → α) (j : Nat) (x y : α) : upd (upd f j x) j y = upd f j y := by
  funext k
  unfold upd
  by_cases h : k = j
  · rw [if_pos h, if_pos h]
  · rw [if_neg h, if_neg h, if_neg h]
theorem upd_self {α : Type} (f : Nat → α) (j : Nat) : upd f j (f j) = f := by
  funext k
  unfold upd
  by_cases h : k = j
  · rw [if_pos h, h]
  · rw [if_neg h]

/-- 449 rows: seven wheels of 64 slots each, and what is due. -/
structure Wh where
  now : Nat
  sl : Nat → List Tm

def lvlFrom (now a : Nat) : Nat → Nat
  | 0 => 0
  | k + 1 => if a / 64 ^ (k + 1) = now / 64 ^ (k + 1) then lvlFrom now a k else k + 1
def lvl (now a : Nat) : Nat := lvlFrom now a 6
def spot (now a : Nat) : Nat := if a ≤ now then 448 else 64 * lvl now a + a / 64 ^ lvl now a % 64
def putS (s : Wh) (t : Tm) : Wh := { s with sl := upd s.sl (spot s.now t.at') (s.sl (spot s.now t.at') ++ [t]) }
def putAll (s : Wh) (l : List Tm) : Wh := l.foldl putS s

theorem lvlFrom_le (now a k : Nat) : lvlFrom now a k ≤ k := by
  induction k with
  | zero => exact Nat.le_refl _
  | succ k ih =>
    unfold lvlFrom
    split
    · omega
    · omega
/-- At the wheel above it the two are alike; at its own they differ, if they differ at all. -/
theorem lvlFrom_spec (now a : Nat) : ∀ k, (k = 6 ∨ a / 64 ^ (k + 1) = now / 64 ^ (k + 1)) →
    (lvlFrom now a k = 6 ∨ a / 64 ^ (lvlFrom now a k + 1) = now / 64 ^ (lvlFrom now a k + 1)) ∧ (lvlFrom now a k ≠ 0 → a / 64 ^ lvlFrom now a k ≠ now / 64 ^ lvlFrom now a k)
  | 0, h => by
    unfold lvlFrom
    exact ⟨h, fun e => absurd rfl e⟩
  | k + 1, h => by
    unfold lvlFrom
    by_cases e : a / 64 ^ (k + 1) = now / 64 ^ (k + 1)
    · rw [if_pos e]
      exact lvlFrom_spec now a k (.inr e)
    · rw [if_neg e]
      exact ⟨h, fun _ => e⟩
theorem pow_pos64 (k : Nat) : 0 < 64 ^ k := Nat.pow_pos (by omega)
/-- A timer ahead lies in a slot ahead, by fewer than 64. -/
theorem lvl_ahead {now a : Nat} (h : now < a) (hm : a ≤ 1099511627776) : now / 64 ^ lvl now a < a / 64 ^ lvl now a ∧ a / 64 ^ lvl now a < now / 64 ^ lvl now a + 64 := by
  obtain ⟨h1, h2⟩ := lvlFrom_spec now a 6 (.inl rfl)
  have hle := lvlFrom_le now a 6
  unfold lvl
  generalize lvlFrom now a 6 = k at *
  have hmono : now / 64 ^ k ≤ a / 64 ^ k := Nat.div_le_div_right (by omega)
  constructor
  · by_cases hk : k = 0
    · subst hk; simpa using h
    · have := h2 hk
      omega
  · rcases h1 with rfl | h1
    · have : a / 64 ^ 6 ≤ 1099511627776 / 64 ^ 6 := Nat.div_le_div_right hm
      have e : 1099511627776 / 64 ^ 6 = 16 := by decide
      omega
    · rw [Nat.pow_succ, ← Nat.div_div_eq_div_mul, ← Nat.div_div_eq_div_mul] at h1
      omega

/-- Each timer lies where it belongs; in the wheels from m on one may be at hand. -/
structure InvK (m : Nat) (s : Wh) : Prop where
  due : ∀ t ∈ s.sl 448, t.at' ≤ s.now
  slot : ∀ k i, k < 7 → i < 64 → ∀ t ∈ s.sl (64 * k + i), i = t.at' / 64 ^ k % 64 ∧ s.now ≤ t.at' ∧ t.at' / 64 ^ k < s.now / 64 ^ k + 64 ∧ (k < m → s.now / 64 ^ k < t.at' / 64 ^ k)
  most : ∀ j, j < 449 → ∀ t ∈ s.sl j, t.at' ≤ 1099511627776
  now : s.now ≤ 1099511627776

theorem spot_lt (now a : Nat) : spot now a < 449 := by
  unfold spot
  split
  · omega
  · have := lvlFrom_le now a 6
    have : a / 64 ^ lvl now a % 64 < 64 := Nat.mod_lt _ (by omega)
    unfold lvl at *
    omega
theorem putS_inv {m : Nat} {s : Wh} (h : InvK m s) {t : Tm} (ht : t.at' ≤ 1099511627776) : InvK m (putS s t) := by
  have hadd : ∀ j u, u ∈ (putS s t).sl j → u ∈ s.sl j ∨ (u = t ∧ j = spot s.now t.at') := by
    intro j u hu
    unfold putS upd at hu
    simp only at hu
    by_cases e : j = spot s.now t.at'
    · rw [if_pos e] at hu
      rcases List.mem_append.1 hu with g | g
      · rw [← e] at g; exact .inl g
      · exact .inr ⟨by simpa using g, e⟩
    · rw [if_neg e] at hu; exact .inl hu
  refine ⟨fun u hu => ?_, fun k i hk hi u hu => ?_, fun j hj u hu => ?_, h.now⟩
  · rcases hadd _ _ hu with g | ⟨rfl, e⟩
    · exact h.due u g
    · unfold spot at e
      by_cases hle : u.at' ≤ s.now
      · exact hle
      · rw [if_neg hle] at e
        have := lvlFrom_le s.now u.at' 6
        have : u.at' / 64 ^ lvl s.now u.at' % 64 < 64 := Nat.mod_lt _ (by omega)
        unfold lvl at *
        omega
  · rcases hadd _ _ hu with g | ⟨rfl, e⟩
    · exact h.slot k i hk hi u g
    · unfold spot at e
      by_cases hle : u.at' ≤ s.now
      · rw [if_pos hle] at e; omega
      · rw [if_neg hle] at e
        have h1 := lvlFrom_le s.now u.at' 6
        have h2 : u.at' / 64 ^ lvl s.now u.at' % 64 < 64 := Nat.mod_lt _ (by omega)
        obtain ⟨a1, a2⟩ := lvl_ahead (show s.now < u.at' by omega) ht
        have hkk : k = lvl s.now u.at' := by
          generalize lvl s.now u.at' = k' at *
          generalize u.at' / 64 ^ k' % 64 = i' at *
          omega
        rw [← hkk] at a1 a2 h2 e
        have hii : i = u.at' / 64 ^ k % 64 := by omega
        exact ⟨hii, by change s.now ≤ u.at'; omega, a2, fun _ => a1⟩
  · rcases hadd _ _ hu with g | ⟨rfl, _⟩
    · exact h.most j hj u g
    · exact ht
theorem putAll_inv {m : Nat} : ∀ {l : List Tm} {s : Wh}, InvK m s → (∀ t ∈ l, t.at' ≤ 1099511627776) → InvK m (putAll s l)
  | [], _, h, _ => h
  | t :: l, s, h, ht => putAll_inv (s := putS s t) (l := l) (putS_inv h (ht t (by simp))) (fun u hu => ht u (by simp [hu]))
theorem putS_now (s : Wh) (t : Tm) : (putS s t).now = s.now := rfl
theorem putAll_now : ∀ (l : List Tm) (s : Wh), (putAll s l).now = s.now
  | [], _ => rfl
  | t :: l, s => putAll_now l (putS s t)

/-- All timers, row by row. -/
def allT (f : Nat → List Tm) (n : Nat) : List Tm := (List.range n).flatMap f
theorem allT_mem {f : Nat → List Tm} {n : Nat} {t : Tm} : t ∈ allT f n ↔ ∃ j, j < n ∧ t ∈ f j := by
  unfold allT
  simp [List.mem_flatMap, List.mem_range]
theorem allT_congr {f g : Nat → List Tm} {n : Nat} (h : ∀ j, j < n → f j = g j) : allT f n = allT g n := by
  unfold allT
  induction n with
  | zero => rfl
  | succ n ih => rw [List.range_succ, List.flatMap_append, List.flatMap_append, ih (fun j hj => h j (by omega))]; simp [h n (by omega)]
theorem allT_take {f : Nat → List Tm} : ∀ {n j : Nat}, j < n → List.Perm (allT f n) (f j ++ allT (upd f j []) n)
  | 0, j, h => by omega
  | n + 1, j, h => by
    have e : ∀ g : Nat → List Tm, allT g (n + 1) = allT g n ++ g n := by
      intro g; unfold allT; rw [List.range_succ, List.flatMap_append]; simp
    rw [e, e]
    by_cases hj : j = n
    · subst hj
      have h1 : allT (upd f j []) j = allT f j := allT_congr fun k hk => upd_other f [] (by omega)
      rw [h1, upd_same, List.append_nil]
      exact List.perm_append_comm
    · rw [upd_other f [] (by omega : n ≠ j), ← List.append_assoc]
      exact (allT_take (by omega)).append_right _
theorem allT_upd {f : Nat → List Tm} {n j : Nat} (h : j < n) (l : List Tm) : List.Perm (allT (upd f j l) n) (l ++ allT (upd f j []) n) := by
  have := allT_take (f := upd f j l) h
  rwa [upd_same, upd_upd] at this
theorem putS_all (s : Wh) (t : Tm) : List.Perm (allT (putS s t).sl 449) (t :: allT s.sl 449) := by
  have hj := spot_lt s.now t.at'
  unfold putS
  simp only
  generalize spot s.now t.at' = j at *
  have h1 := allT_upd (f := s.sl) hj (s.sl j ++ [t])
  have h2 := allT_take (f := s.sl) hj
  refine h1.trans ?_
  refine List.Perm.trans ?_ ((h2.symm).cons t)
  rw [List.append_assoc]
  exact List.perm_middle
theorem putAll_all : ∀ (l : List Tm) (s : Wh), List.Perm (allT (putAll s l).sl 449) (l ++ allT s.sl 449)
  | [], _ => List.Perm.refl _
  | t :: l, s => (putAll_all l (putS s t)).trans (((putS_all s t).append_left l).trans List.perm_middle)

/-- One wheel's slot at hand is emptied, and its timers are put anew. -/
def turnK (k : Nat) (s : Wh) : Wh := putAll { s with sl := upd s.sl (64 * k + s.now / 64 ^ k % 64) [] } (s.sl (64 * k + s.now / 64 ^ k % 64))
theorem turnK_now (k : Nat) (s : Wh) : (turnK k s).now = s.now := putAll_now _ _
theorem turnK_inv {k : Nat} (hk : k < 7) {s : Wh} (h : InvK k s) : InvK (k + 1) (turnK k s) := by
  have hi : s.now / 64 ^ k % 64 < 64 := Nat.mod_lt _ (by omega)
  have hj : 64 * k + s.now / 64 ^ k % 64 < 448 := by omega
  refine putAll_inv ⟨?_, ?_, ?_, h.now⟩ (h.most _ (by omega))
  · intro t ht
    simp only at ht
    rw [upd_other s.sl [] (by omega)] at ht
    exact h.due t ht
  · intro k' i hk' hi' t ht
    simp only at ht ⊢
    by_cases e : 64 * k' + i = 64 * k + s.now / 64 ^ k % 64
    · rw [e, upd_same] at ht; cases ht
    · rw [upd_other s.sl [] e] at ht
      obtain ⟨h1, h2, h3, h4⟩ := h.slot k' i hk' hi' t ht
      refine ⟨h1, h2, h3, fun hlt => ?_⟩
      by_cases ek : k' = k
      · subst ek
        have hle : s.now / 64 ^ k' ≤ t.at' / 64 ^ k' := Nat.div_le_div_right h2
        refine Nat.lt_of_le_of_ne hle fun e2 => e ?_
        rw [h1, ← e2]
      · exact h4 (by omega)
  · intro j hj' t ht
    simp only at ht
    by_cases e : j = 64 * k + s.now / 64 ^ k % 64
    · rw [e, upd_same] at ht; cases ht
    · rw [upd_other s.sl [] e] at ht
      exact h.most j hj' t ht
theorem turnK_all {k : Nat} (hk : k < 7) (s : Wh) : List.Perm (allT (turnK k s).sl 449) (allT s.sl 449) := by
  have hi : s.now / 64 ^ k % 64 < 64 := Nat.mod_lt _ (by omega)
  exact (putAll_all _ _).trans (allT_take (f := s.sl) (by omega)).symm
/-- The first m wheels are turned. -/
def turnTo (s : Wh) : Nat → Wh
  | 0 => s
  | k + 1 => turnK k (turnTo s k)
theorem turnTo_now (s : Wh) : ∀ m, (turnTo s m).now = s.now
  | 0 => rfl
  | m + 1 => (turnK_now m _).trans (turnTo_now s m)
theorem turnTo_inv {s : Wh} (h : InvK 0 s) : ∀ m, m ≤ 7 → InvK m (turnTo s m)
  | 0, _ => h
  | m + 1, hm => turnK_inv (by omega) (turnTo_inv h m (by omega))
theorem turnTo_all (s : Wh) : ∀ m, m ≤ 7 → List.Perm (allT (turnTo s m).sl 449) (allT s.sl 449)
  | 0, _ => List.Perm.refl _
  | m + 1, hm => (turnK_all (by omega) _).trans (turnTo_all s m (by omega))

/-- A time that no slot's beginning is ahead of. -/
def NextS (s : Wh) (n : Nat) : Prop := ∀ k i, k < 7 → 1 ≤ i → i ≤ 64 → s.sl (64 * k + (s.now / 64 ^ k + i) % 64) ≠ [] → n ≤ (s.now / 64 ^ k + i) * 64 ^ k
theorem nextS_le {s : Wh} (h : InvK 7 s) {n : Nat} (hn : NextS s n) {k i : Nat} (hk : k < 7) (hi : i < 64) {t : Tm} (ht : t ∈ s.sl (64 * k + i)) : n ≤ t.at' / 64 ^ k * 64 ^ k := by
  obtain ⟨h1, h2, h3, h4⟩ := h.slot k i hk hi t ht
  have h5 := h4 hk
  have := hn k (t.at' / 64 ^ k - s.now / 64 ^ k) hk (by omega) (by omega) (by
    rw [show s.now / 64 ^ k + (t.at' / 64 ^ k - s.now / 64 ^ k) = t.at' / 64 ^ k by omega, ← h1]
    exact List.ne_nil_of_mem ht)
  rwa [show s.now / 64 ^ k + (t.at' / 64 ^ k - s.now / 64 ^ k) = t.at' / 64 ^ k by omega] at this
/-- Time goes on to the next slot's beginning. -/
theorem goOn_inv {s : Wh} (h : InvK 7 s) {n : Nat} (hn : NextS s n) (hlt : s.now < n) (hm : n ≤ 1099511627776) : InvK 0 { s with now := n } := by
  refine ⟨fun t ht => Nat.le_trans (h.due t ht) (Nat.le_of_lt hlt), fun k i hk hi t ht => ?_, h.most, hm⟩
  obtain ⟨h1, h2, h3, h4⟩ := h.slot k i hk hi t ht
  have h5 := nextS_le h hn hk hi ht
  have h6 : t.at' / 64 ^ k * 64 ^ k ≤ t.at' := Nat.div_mul_le_self _ _
  have h7 : s.now / 64 ^ k ≤ n / 64 ^ k := Nat.div_le_div_right (by omega)
  exact ⟨h1, by change n ≤ t.at'; omega, by change _ < n / 64 ^ k + 64; omega, fun e => by omega⟩
/-- .. or to a time ahead of it. -/
theorem goTo_inv {s : Wh} (h : InvK 7 s) {n to : Nat} (hn : NextS s n) (hlt : to < n) (hto : s.now ≤ to) (hm : to ≤ 1099511627776) : InvK 7 { s with now := to } := by
  refine ⟨fun t ht => Nat.le_trans (h.due t ht) hto, fun k i hk hi t ht => ?_, h.most, hm⟩
  obtain ⟨h1, h2, h3, h4⟩ := h.slot k i hk hi t ht
  have h5 := nextS_le h hn hk hi ht
  have h6 : t.at' / 64 ^ k * 64 ^ k ≤ t.at' := Nat.div_mul_le_self _ _
  have h7 : s.now / 64 ^ k ≤ to / 64 ^ k := Nat.div_le_div_right (by omega)
  refine ⟨h1, by change to ≤ t.at'; omega, by change _ < to / 64 ^ k + 64; omega, fun _ => ?_⟩
  change to / 64 ^ k < t.at' / 64 ^ k
  exact (Nat.div_lt_iff_lt_mul (pow_pos64 k)).2 (by omega)
/-- Whatever lies in a slot is ahead. -/
theorem slot_ahead {s : Wh} (h : InvK 7 s) {j : Nat} (hj : j < 448) {t : Tm} (ht : t ∈ s.sl j) : s.now < t.at' := by
  have e : j = 64 * (j / 64) + j % 64 := by omega
  rw [e] at ht
  obtain ⟨h1, h2, h3, h4⟩ := h.slot (j / 64) (j % 64) (by omega) (Nat.mod_lt _ (by omega)) t ht
  have h5 := h4 (by omega)
  rcases Nat.lt_or_ge s.now t.at' with g | g
  · exact g
  · have : t.at' / 64 ^ (j / 64) ≤ s.now / 64 ^ (j / 64) := Nat.div_le_div_right g
    omega
/-- What is due is what is not ahead. -/
theorem due_perm {s : Wh} (h : InvK 7 s) {L : List Tm} (hp : List.Perm (allT s.sl 449) L) :
    List.Perm (s.sl 448) (L.filter fun t => decide (t.at' ≤ s.now)) ∧ List.Perm (allT (upd s.sl 448 []) 449) (L.filter fun t => decide (s.now < t.at')) := by
  have h1 := (allT_take (f := s.sl) (show 448 < 449 by omega)).symm.trans hp
  have hd : (s.sl 448).filter (fun t => decide (t.at' ≤ s.now)) = s.sl 448 := List.filter_eq_self.2 fun t ht => by simpa using h.due t ht
  have hd2 : (s.sl 448).filter (fun t => decide (s.now < t.at')) = [] := List.filter_eq_nil_iff.2 fun t ht => by have := h.due t ht; simp; omega
  have hr : ∀ t ∈ allT (upd s.sl 448 []) 449, s.now < t.at' := by
    intro t ht
    obtain ⟨j, hj, ht⟩ := allT_mem.1 ht
    by_cases e : j = 448
    · subst e; rw [upd_same] at ht; cases ht
    · rw [upd_other s.sl [] e] at ht
      exact slot_ahead h (by omega) ht
  have hr1 : (allT (upd s.sl 448 []) 449).filter (fun t => decide (t.at' ≤ s.now)) = [] := List.filter_eq_nil_iff.2 fun t ht => by have := hr t ht; simp; omega
  have hr2 : (allT (upd s.sl 448 []) 449).filter (fun t => decide (s.now < t.at')) = allT (upd s.sl 448 []) 449 := List.filter_eq_self.2 fun t ht => by simpa using hr t ht
  constructor
  · have := h1.filter (fun t => decide (t.at' ≤ s.now))
    rwa [List.filter_append, hd, hr1, List.append_nil] at this
  · have := h1.filter (fun t => decide (s.now < t.at'))
    rwa [List.filter_append, hd2, hr2, List.nil_append] at this
end Go.Proofs.YtdahefphohkhlaaDoor
