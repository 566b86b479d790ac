/-
  A batch's bytes: plain data.
-/
import Derived.Test.YtmaomebnigcgeaaGreatDoorRecL
import Derived.Test.YtmaomebnigcgeaaGreatDoorSumL
import Derived.Test.YtmaomebnigcgeaaGreatDoorTextW
import Derived.Test.YtmaomebnigcgeaaGreatDoorFourW
namespace Go.Proofs.YtmaomebnigcgeaaGreatDoor
open Go.RowKit

def Rec.flags (r : Rec) : Nat := (if r.keyed = true then 1 else 0) + (if r.gone = true then 2 else 0)
/-- A record's bytes, its batch beginning at base. -/
def encRec (base : Int) (r : Rec) : List UInt8 :=
  put (r.off - base).toNat ++ put r.time.toNat ++ put r.flags ++ (if r.keyed = true then putText r.key else []) ++ (if r.gone = true then [] else putText r.value)
def encRecs (base : Int) : List Rec → List UInt8
  | [] => []
  | r :: rs => encRec base r ++ encRecs base rs
theorem encRecs_append (base : Int) (a b : List Rec) : encRecs base (a ++ b) = encRecs base a ++ encRecs base b := by
  induction a with
  | nil => rfl
  | cons r a ih => simp only [List.cons_append, encRecs, ih, List.append_assoc]
def encHead (base en : Int) (n : Nat) : List UInt8 := put base.toNat ++ put (en - base).toNat ++ put n
def encBody (base en : Int) (rs : List Rec) : List UInt8 := encHead base en rs.length ++ encRecs base rs
/-- All of a batch's bytes. -/
def encAll (base en : Int) (rs : List Rec) : List UInt8 :=
  four (8 + (encBody base en rs).length) ++ four (sumOf (encBody base en rs)) ++ encBody base en rs
/-- What is wrong with a batch that is to be written: 0: nothing. -/
def encErr (base en : Int) (rs : List Rec) : Nat :=
  if checkB base en rs ≠ 0 then checkB base en rs else if 6000 < 8 + (encBody base en rs).length then 4 else 0

/-- A record of a batch that may be. -/
structure Rec.Fits (base en : Int) (r : Rec) : Prop where
  lo : base ≤ r.off
  hi : r.off < en
  t0 : 0 ≤ r.time
  t1 : r.time ≤ 1099511627776
  key : r.key.size ≤ 60
  value : r.value.size ≤ 500
  nokey : r.keyed = false → r.key.toList = []
  novalue : r.gone = true → r.value.toList = []

theorem fits_of_check {base en : Int} : ∀ {last : Int} {rs : List Rec}, checkRecs en last rs = 0 → base - 1 ≤ last → ∀ r ∈ rs, r.Fits base en
  | last, [], _, _ => by simp
  | last, r :: rs, h, hl => by
    unfold checkRecs at h
    by_cases h1 : badArg last en r = true
    · rw [if_pos h1] at h; cases h
    · rw [if_neg h1] at h
      by_cases h2 : badLen r = true
      · rw [if_pos h2] at h; cases h
      · rw [if_neg h2] at h
        by_cases h3 : badTime r = true
        · rw [if_pos h3] at h; cases h
        · rw [if_neg h3] at h
          simp only [badArg, badLen, badTime, Bool.or_eq_true, decide_eq_true_eq, Bool.and_eq_true, Bool.not_eq_true', not_or, not_and, Bool.not_eq_false] at h1 h2 h3
          obtain ⟨⟨⟨a1, a2⟩, a3⟩, a4⟩ := h1
          have hr : r.Fits base en := ⟨by omega, by omega, by omega, by omega, by omega, by omega,
            fun hk => by simpa using a3 hk, fun hg => by simpa using a4 hg⟩
          intro x hx
          rcases List.mem_cons.1 hx with rfl | hx
          · exact hr
          · exact fits_of_check h (by have := hr.lo; omega) x hx

theorem checkB_zero {base en : Int} {rs : List Rec} (h : checkB base en rs = 0) : 0 ≤ base ∧ en ≤ 1099511627776 ∧ base < en ∧ rs.length ≤ 50 ∧ en - base ≤ 50 ∧ ∀ r ∈ rs, r.Fits base en := by
  unfold checkB at h
  by_cases h1 : base < 0 ∨ 1099511627776 < en
  · rw [if_pos h1] at h; cases h
  · rw [if_neg h1] at h
    by_cases h2 : en ≤ base
    · rw [if_pos h2] at h; cases h
    · rw [if_neg h2] at h
      by_cases h3 : 50 < rs.length ∨ 50 < en - base
      · rw [if_pos h3] at h; cases h
      · rw [if_neg h3] at h
        exact ⟨by omega, by omega, by omega, by omega, by omega, fits_of_check h (by omega)⟩

theorem putText_length {s : ByteArray} (h : s.size ≤ 1000) : (putText s).length ≤ 6 + s.size := by
  unfold putText
  have : (put s.size).length ≤ 6 := put_length (k := 5) (by omega)
  have e : s.data.toList.length = s.size := by rw [Array.length_toList]; rfl
  rw [List.length_append, e]
  omega
theorem encRec_length {base en : Int} {r : Rec} (h : r.Fits base en) (hb : en - base ≤ 50) : (encRec base r).length ≤ 600 := by
  obtain ⟨h1, h2, h3, h4, h5, h6, _, _⟩ := h
  unfold encRec
  have a1 : (put (r.off - base).toNat).length ≤ 6 := put_length (k := 5) (by omega)
  have a2 : (put r.time.toNat).length ≤ 6 := put_length (k := 5) (by omega)
  have a3 : (put r.flags).length ≤ 6 := put_length (k := 5) (by unfold Rec.flags; split <;> split <;> omega)
  have a4 : (if r.keyed = true then putText r.key else []).length ≤ 66 := by
    split
    · have := putText_length (s := r.key) (by omega); omega
    · simp
  have a5 : (if r.gone = true then [] else putText r.value).length ≤ 506 := by
    split
    · simp
    · have := putText_length (s := r.value) (by omega); omega
  simp only [List.length_append]
  omega
theorem encRecs_length {base en : Int} (hb : en - base ≤ 50) : ∀ {rs : List Rec}, (∀ r ∈ rs, r.Fits base en) → (encRecs base rs).length ≤ 600 * rs.length
  | [], _ => by simp [encRecs]
  | r :: rs, h => by
    have h1 := encRec_length (h r (by simp)) hb
    have h2 := encRecs_length hb (rs := rs) fun x hx => h x (by simp [hx])
    simp only [encRecs, List.length_append, List.length_cons]
    omega
end Go.Proofs.YtmaomebnigcgeaaGreatDoor
