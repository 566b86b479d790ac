/-
  The walk of next.
-/
import Derived.Test.YtdahefphohkhlaaDoorWhNowW
import Derived.Deep.CutBlock
set_option linter.unusedSimpArgs false
set_option linter.unusedVariables false
namespace Go.Proofs.YtdahefphohkhlaaDoor
open Go.RowKit Go.Maps

/-- What the first m wheels (and i - 1 slots of the next) say of a best time. -/
def NextTo (s : Wh) (m i n : Nat) : Prop := ∀ k i', k < 7 → 1 ≤ i' → i' ≤ 64 → (k < m ∨ (k = m ∧ i' < i)) → s.sl (64 * k + (s.now / 64 ^ k + i') % 64) ≠ [] → n ≤ (s.now / 64 ^ k + i') * 64 ^ k
theorem OwnTm.form {w : World} {v : Value} {ts : List Tm} (h : OwnTm w v ts) : ∃ a c, v = .slice a ts.length c := by
  obtain ⟨a, c, e, _⟩ := h.rows
  exact ⟨a, c, e⟩

set_option maxHeartbeats 1000000 in
set_option maxRecDepth 100000 in
theorem next_any {w : World} {p : Nat} {s : Wh} {ids : List Int} {added : Nat} {sv : Nat → Value} {mb : Option Nat} (h : Wl w p s ids added sv mb) (tt : Nat) (hn : s.now ≤ tt) (ht : tt ≤ 1099511627776) :
    Calls Tryd.prog 16 #[.pointer (some ⟨p, 0, none⟩), .int .i64 (tt : Nat)] w fun e w' => ∃ n : Nat, e = .returned (.int .i64 (n : Nat)) ∧ w' = w ∧ s.now < n ∧ n ≤ tt + 1 ∧ NextS s n := by
  have c0 := h.c0
  have HF : Hid (∀ j, j < 449 → ∃ a c, w.cell? ⟨p, 1 + j, none⟩ = some (.slice a (s.sl j).length c)) := fun j hj => by
    obtain ⟨a, c, e⟩ := (h.own j hj).form
    exact ⟨a, c, by rw [← e]; exact h.cs j hj⟩
  clear h
  go_enter Tryd.func16, Tryd.ntmps16
  go_wp2_with fail
  go_loopw [11, 5] (fun i b wr => ∃ k n : Nat, k ≤ 7 ∧ i = .int .i64 k ∧ b = .int .i64 n ∧ w = wr ∧ s.now < n ∧ n ≤ tt + 1 ∧ Hid (NextTo s k 0 n)) (fun i _ _ => 7 - (RowKit.intOf i).toNat)
  case atStart => exact ⟨0, tt + 1, by omega, rfl, by go_num, rfl, by omega, by omega, fun k i' _ h1 _ h _ => by omega⟩
  case round =>
    rename_i wr
    obtain ⟨k, n, hk, rfl, rfl, rfl, h1, h2, HN⟩ := hrel
    by_cases hk7 : k < 7
    · have hk7i : (k : Int) < 7 := by omega
      have hA : s.now / 64 ^ k ≤ 1099511627776 := Nat.le_trans (Nat.div_le_self _ _) (by omega)
      have HB : Hid (∀ m : Nat, m ≤ 64 → (s.now / 64 ^ k + m) * 64 ^ k ≤ 9000000000000) := fun m hm => by
        have e1 : s.now / 64 ^ k * 64 ^ k ≤ s.now := Nat.div_mul_le_self _ _
        have e2 : 64 ^ k ≤ 64 ^ 6 := Nat.pow_le_pow_right (by omega) (by omega)
        have e3 : m * 64 ^ k ≤ 64 * 64 ^ 6 := Nat.mul_le_mul hm e2
        have e4 : 64 * 64 ^ 6 = 4398046511104 := by decide
        rw [Nat.add_mul]
        omega
      have HA : Hid (∀ x, NextTo s k 0 x → x = x) := fun _ _ => rfl
      obtain ⟨A, hA2⟩ : ∃ A, A = s.now / 64 ^ k := ⟨_, rfl⟩
      have HA2 := Lib.hid hA2
      have hsh := shr64 s.now k
      rw [← hA2] at hA HB hsh
      have HSH := Lib.hid hsh
      clear hA2 hsh
      go_upto_block 1 with fail
      go_cut [5] (fun b wy => ∃ n' : Nat, b = .int .i64 n' ∧ w = wy ∧ s.now < n' ∧ n' ≤ tt + 1 ∧ Hid (NextTo s (k + 1) 0 n'))
      case first =>
        go_wp2_with fail
        rw [HSH.out]
        go_loopw [8, 5] (fun i b wy => ∃ m : Nat, 1 ≤ m ∧ m ≤ 65 ∧ i = .int .i64 m ∧ b = .int .i64 n ∧ w = wy ∧ Hid (NextTo s k m n)) (fun i _ _ => 65 - (RowKit.intOf i).toNat)
        case atStart => exact ⟨1, by omega, by omega, rfl, rfl, rfl, fun k' i' a1 a2 a3 a4 a5 => HN.out k' i' a1 a2 a3 (by omega) a5⟩
        case round =>
          rename_i wr2
          obtain ⟨m, m1, m2, rfl, rfl, rfl, HM⟩ := hrel
          by_cases hm : m ≤ 64
          · have hmi : (m : Int) ≤ 64 := by omega
            have hmod : (A + m) % 64 < 64 := Nat.mod_lt _ (by omega)
            obtain ⟨a, c, hc⟩ := HF.out (64 * k + (A + m) % 64) (by omega)
            rw [show 1 + (64 * k + (A + m) % 64) = 1 + k * 64 + (A + m) % 64 by omega] at hc
            have hb64 := HB.out m hm
            by_cases he : 0 < (s.sl (64 * k + (A + m) % 64)).length
            · have hei : (0 : Int) < ((s.sl (64 * k + (A + m) % 64)).length : Int) := by omega
              have hwr : wrap64 (((A : Int) + (m : Int)) * 2 ^ (6 * k)) = (((A + m) * 64 ^ k : Nat) : Int) := by
                rw [pow64]
                have e : ((A : Int) + (m : Int)) * ((64 ^ k : Nat) : Int) = (((A + m) * 64 ^ k : Nat) : Int) := by push_cast; rfl
                rw [e]
                exact IntWalk.wrap64_in _ ⟨by omega, by omega⟩
              have hlo : s.now < (A + m) * 64 ^ k := by
                have e1 := Nat.lt_div_mul_add (a := s.now) (pow_pos64 k)
                rw [← HA2.out] at e1
                have e2 : A * 64 ^ k + 64 ^ k ≤ (A + m) * 64 ^ k := by
                  rw [Nat.add_mul]
                  have := Nat.le_mul_of_pos_left (64 ^ k) (show 0 < m by omega)
                  omega
                omega
              have HVM : Hid (∀ i', m ≤ i' → (A + m) * 64 ^ k ≤ (A + i') * 64 ^ k) := fun i' h => Nat.mul_le_mul_right _ (by omega)
              generalize (A + m) * 64 ^ k = V at *
              have HFIN : Hid (∀ x : Nat, x ≤ n → x ≤ V → NextTo s (k + 1) 0 x) := fun x x1 x2 k' i' a1 a2 a3 a4 a5 => by
                by_cases ek : k' = k
                · subst ek
                  rw [← HA2.out] at a5 ⊢
                  rcases Nat.lt_or_ge i' m with hlt | hge
                  · have := HM.out k' i' a1 a2 a3 (.inr ⟨rfl, hlt⟩) (by rw [← HA2.out]; exact a5)
                    rw [← HA2.out] at this
                    omega
                  · exact Nat.le_trans x2 (HVM.out i' hge)
                · exact Nat.le_trans x1 (HN.out k' i' a1 a2 a3 (.inl (by omega)) a5)
              clear HVM HN HM
              by_cases hvn : V < n
              · have hvi : (V : Int) < (n : Int) := by omega
                go_wp2_with fail
                go_meet
                case rel => exact ⟨V, rfl, rfl, hlo, by omega, HFIN.out V (by omega) (Nat.le_refl _)⟩
              · have hvi : ¬ (V : Int) < (n : Int) := by omega
                go_wp2_with fail
                go_meet
                case rel => exact ⟨n, rfl, rfl, h1, h2, HFIN.out n (Nat.le_refl _) (by omega)⟩
            · have hei : ¬ (0 : Int) < ((s.sl (64 * k + (A + m) % 64)).length : Int) := by omega
              go_wp2_with fail
              go_roundw
              case rel =>
                refine ⟨m + 1, by omega, by omega, by go_num, by first | trivial | rfl, by first | trivial | rfl, fun k' i' a1 a2 a3 a4 a5 => ?_⟩
                by_cases e : k' = k ∧ i' = m
                · obtain ⟨rfl, rfl⟩ := e
                  rw [← HA2.out] at a5
                  exact absurd (List.eq_nil_of_length_eq_zero (by omega)) a5
                · exact HM.out k' i' a1 a2 a3 (by omega) a5
              case measure => simp [RowKit.intOf]; omega
          · have hmi : ¬ (m : Int) ≤ 64 := by omega
            go_wp2_with fail
            go_meet
            case rel => exact ⟨n, rfl, rfl, h1, h2, fun k' i' a1 a2 a3 a4 a5 => HM.out k' i' a1 a2 a3 (by omega) a5⟩
      obtain ⟨n', rfl, rfl, g1, g2, HN'⟩ := hcut
      go_wp2_with fail
      go_roundw
      case rel => exact ⟨k + 1, n', by omega, by go_num, by first | trivial | rfl, by first | trivial | rfl, g1, g2, HN'⟩
      case measure => simp [RowKit.intOf]; omega
    · have hk7i : ¬ (k : Int) < 7 := by omega
      go_wp2_with fail
      go_ret
      refine ⟨n, rfl, rfl, h1, h2, fun k' i' a1 a2 a3 a4 => HN.out k' i' a1 a2 a3 (.inl (by omega)) a4⟩
end Go.Proofs.YtdahefphohkhlaaDoor
