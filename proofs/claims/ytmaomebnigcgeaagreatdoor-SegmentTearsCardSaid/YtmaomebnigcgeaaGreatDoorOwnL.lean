/-
  Records of the call's own as cells; that memory can hold what was read; a number's flags. Plain laws beside DecL.
-/
import Derived.Test.YtmaomebnigcgeaaGreatDoorDecL
namespace Go.Proofs.YtmaomebnigcgeaaGreatDoor
open Go.RowKit

theorem cells_get (rs : List Rec) : ∀ (i : Nat) (hi : i < rs.length) (j : Nat) (u : Value), rs[i].cells[j]? = some u → (rs.flatMap Rec.cells)[i * 6 + j]? = some u := by
  induction rs with
  | nil => intro i hi; simp at hi
  | cons r rs ih =>
    intro i hi j u hj
    rw [List.flatMap_cons]
    cases i with
    | zero =>
      have hj6 : j < r.cells.length := by
        have h : r.cells[j]? = some u := hj
        exact (List.getElem?_eq_some_iff.1 h).1
      rw [Nat.zero_mul, Nat.zero_add, List.getElem?_append_left hj6]
      exact hj
    | succ i =>
      have h6 : r.cells.length = 6 := rfl
      rw [List.getElem?_append_right (by omega), show (i + 1) * 6 + j - r.cells.length = i * 6 + j by omega]
      exact ih i (by simpa using hi) j u hj

theorem OwnR.recs {e : TypeId} {w : World} {v : Value} {rs : List Rec} (h : OwnR e w v rs) : ∃ a cap, v = .slice a rs.length cap ∧ RecsAt w a rs ∧ rs.length ≤ cap := by
  rcases h.2 with ⟨rfl, hn⟩ | ⟨g, cap, cur, rfl, _, _, hle, _⟩
  · refine ⟨none, 0, by rw [hn], fun i hi => by omega, by omega⟩
  · refine ⟨some ⟨g, 0, none⟩, cap, rfl, fun i hi => ⟨g, 0, rfl, fun j u hj => ?_⟩, hle⟩
    have := World.ownsRow.cells h (g := g) rfl (i * 6 + j) u (cells_get rs i hi j u hj)
    have e1 : (⟨g, 0, none⟩ : Addr).add (i * 6 + j) = ⟨g, i * 6 + j, none⟩ := by unfold Addr.add; split <;> simp_all
    rw [e1] at this
    rw [Nat.zero_add]
    exact this

theorem textSt_le (s : St) : (textSt s).1.length ≤ s.1.length ∧ (textSt s).2.1.length ≤ s.1.length := by
  unfold textSt textS textRest
  simp only [List.length_take, List.length_drop]
  omega
theorem keyOf_le (f : Nat) (s : St) : (keyOf f s).1.length ≤ s.1.length ∧ (keyOf f s).2.1.length ≤ s.1.length := by
  unfold keyOf
  by_cases h : f % 2 = 1
  · rw [if_pos h]; exact textSt_le s
  · rw [if_neg h]; exact ⟨Nat.zero_le _, Nat.le_refl _⟩
theorem valOfS_le (f : Nat) (s : St) : (valOfS f s).1.length ≤ s.1.length ∧ (valOfS f s).2.1.length ≤ s.1.length := by
  unfold valOfS
  by_cases h : f / 2 % 2 = 1
  · rw [if_pos h]; exact ⟨Nat.zero_le _, Nat.le_refl _⟩
  · rw [if_neg h]; exact textSt_le s
theorem decRec_ok {base : Int} {s : St} (h0 : 0 ≤ base) (h1 : base ≤ 1099511627776) (hs : s.1.length ≤ maxLen) : (decRec base s).1.Ok ∧ (decRec base s).2.1.length ≤ s.1.length := by
  have a1 := numS_le s
  have a2 := numS_len s
  have b1 := numS_le (numS s).2
  have b2 := numS_len (numS s).2
  have c2 := numS_len (numS (numS s).2).2
  have k := keyOf_le (numS (numS (numS s).2).2).1 (flagS (numS (numS (numS s).2).2).1 (numS (numS (numS s).2).2).2)
  have v := valOfS_le (numS (numS (numS s).2).2).1 (keyOf (numS (numS (numS s).2).2).1 (flagS (numS (numS (numS s).2).2).1 (numS (numS (numS s).2).2).2)).2
  have hf : (flagS (numS (numS (numS s).2).2).1 (numS (numS (numS s).2).2).2).1 = (numS (numS (numS s).2).2).2.1 := rfl
  rw [hf] at k
  have hsz : ∀ l : List UInt8, (⟨l.toArray⟩ : ByteArray).size = l.length := fun l => List.size_toArray
  refine ⟨⟨?_, ?_, ?_, ?_⟩, ?_⟩
  · unfold decRec mkRec; simp only; omega
  · unfold decRec mkRec; simp only; omega
  · unfold decRec mkRec; simp only [hsz]; omega
  · unfold decRec mkRec; simp only [hsz]; omega
  · unfold decRec; simp only; omega
theorem decRecs_ok {base : Int} (h0 : 0 ≤ base) (h1 : base ≤ 1099511627776) : ∀ {n : Nat} {s : St} {acc : List Rec}, s.1.length ≤ maxLen → (∀ r ∈ acc, r.Ok) → ∀ r ∈ (decRecs base n s acc).1, r.Ok
  | 0, s, acc, _, h => h
  | n + 1, s, acc, hs, h => by
    by_cases hb : s.2 = true
    · rw [decRecs_bad hb]; exact h
    · rw [decRecs_on (by simpa using hb)]
      obtain ⟨k1, k2⟩ := decRec_ok h0 h1 hs
      refine decRecs_ok h0 h1 (by omega) ?_
      intro r hr
      rcases List.mem_append.1 hr with hr | hr
      · exact h r hr
      · rw [List.mem_singleton.1 hr]; exact k1

theorem and_nat (a b : Nat) (ha : a < 4611686018427387904) (hb : b < 4611686018427387904) : bits .and .i64 (a : Int) (b : Int) = ((a &&& b : Nat) : Int) := by
  have hand : a &&& b < 2 ^ 62 := Nat.and_lt_two_pow a (by omega)
  show IntKind.i64.wrap ((BitVec.ofInt 64 (a : Int) &&& BitVec.ofInt 64 (b : Int)).toNat : Nat) = _
  rw [BitVec.toNat_and, BitVec.ofInt_natCast, BitVec.ofInt_natCast, BitVec.toNat_ofNat, BitVec.toNat_ofNat, Nat.mod_eq_of_lt (by omega), Nat.mod_eq_of_lt (by omega)]
  generalize a &&& b = x at *
  rw [IntKind.wrap_i64]
  omega
theorem flag1 (f : Nat) (h : f ≤ 1099511627776) : (bits .and .i64 (f : Int) 1 != 0) = decide (f % 2 = 1) := by
  have e : bits .and .i64 (f : Int) 1 = ((f % 2 : Nat) : Int) := by
    have := and_nat f 1 (by omega) (by omega)
    rw [nat_mask1] at this
    exact this
  rw [e]
  have : f % 2 = 0 ∨ f % 2 = 1 := by omega
  rcases this with h | h <;> rw [h] <;> decide
theorem flag2 (f : Nat) (h : f ≤ 1099511627776) : (bits .and .i64 (f : Int) 2 != 0) = decide (f / 2 % 2 = 1) := by
  have e : bits .and .i64 (f : Int) 2 = ((f / 2 % 2 * 2 : Nat) : Int) := by
    have := and_nat f 2 (by omega) (by omega)
    rw [show (2 : Nat) = 2 ^ 1 from rfl, nat_bit] at this
    exact this
  rw [e]
  have : f / 2 % 2 = 0 ∨ f / 2 % 2 = 1 := by omega
  rcases this with h | h <;> rw [h] <;> decide
end Go.Proofs.YtmaomebnigcgeaaGreatDoor
