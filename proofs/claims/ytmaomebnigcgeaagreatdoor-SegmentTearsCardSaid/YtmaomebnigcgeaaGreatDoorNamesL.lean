/-
  Names: which texts may be names: plain data. A text is all of some bytes just if nothing is left when these are trimmed.
-/
import Derived.Lib.SlTrimSet
import Derived.Lib.Bytealg
namespace Go.Proofs.YtmaomebnigcgeaaGreatDoor

def cutDisk : List UInt8 := [97, 98, 99, 100, 101, 102, 103, 104, 105, 106, 107, 108, 109, 110, 111, 112, 113, 114, 115, 116, 117, 118, 119, 120, 121, 122, 48, 49, 50, 51, 52, 53, 54, 55, 56, 57, 45, 46, 47]
def cutTopic : List UInt8 := [97, 98, 99, 100, 101, 102, 103, 104, 105, 106, 107, 108, 109, 110, 111, 112, 113, 114, 115, 116, 117, 118, 119, 120, 121, 122, 48, 49, 50, 51, 52, 53, 54, 55, 56, 57]
/-- Whether a text may be a name: of 1 to 'most' bytes of these. -/
def nameOk (most : Nat) (cs : List UInt8) (l : List UInt8) : Bool := !l.isEmpty && decide (l.length ≤ most) && l.all (cs.contains ·)

theorem dropWhile_nil {p : UInt8 → Bool} : ∀ {l : List UInt8}, l.dropWhile p = [] ↔ l.all p = true
  | [] => by simp
  | a :: l => by
    rw [List.dropWhile_cons]
    by_cases h : p a = true
    · rw [if_pos h, dropWhile_nil, List.all_cons, h, Bool.true_and]
    · rw [if_neg h, List.all_cons]
      simp [h]
theorem trim_nil {l cs : List UInt8} : Lib.trimS l cs = [] ↔ l.all (cs.contains ·) = true := by
  unfold Lib.trimS Lib.trimLeftS Lib.trimRightS
  rw [dropWhile_nil, List.all_reverse]
  constructor
  · intro h
    -- what is left is of them, and so is what went
    have hsplit := List.takeWhile_append_dropWhile (p := fun b => cs.contains b) (l := l.reverse)
    have h2 : l.reverse.all (cs.contains ·) = true := by
      rw [← hsplit, List.all_append, h, Bool.and_true, List.all_eq_true]
      intro x hx
      exact List.all_eq_true.1 (List.all_takeWhile) x hx
    rwa [List.all_reverse] at h2
  · intro h
    rw [List.all_eq_true] at h ⊢
    intro x hx
    exact h x (List.mem_reverse.1 ((List.dropWhile_sublist _).mem hx))

theorem indexByte_neg : ∀ {l : List UInt8} {c : UInt8}, Lib.indexByte l c < 0 ↔ l.contains c = false
  | [], c => by simp [Lib.indexByte]
  | b :: l, c => by
    have ih := indexByte_neg (l := l) (c := c)
    have hge := Lib.indexByte_ge l c
    unfold Lib.indexByte
    by_cases h : (b == c) = true
    · have hbc : c = b := (beq_iff_eq.1 h).symm
      rw [if_pos h]
      subst hbc
      simp
    · have hcb : (c == b) = false := by
        rw [beq_eq_false_iff_ne]
        intro e
        exact h (by rw [e]; simp)
      rw [if_neg h, List.contains_cons, hcb, Bool.false_or, ← ih]
      by_cases h2 : (Lib.indexByte l c == -1) = true
      · rw [if_pos h2]
        have := beq_iff_eq.1 h2
        omega
      · rw [if_neg h2]
        have : Lib.indexByte l c ≠ -1 := fun e => h2 (by rw [e]; rfl)
        omega
end Go.Proofs.YtmaomebnigcgeaaGreatDoor
