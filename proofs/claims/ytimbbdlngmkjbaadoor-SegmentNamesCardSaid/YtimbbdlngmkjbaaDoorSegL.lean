/-
  Plain facts on the names of segments' files: a name is read back; two ways of reading a name are one. Of no program.
-/
import Derived.Lib.ItoaNum
import Derived.Lib.ItoaMem
import Derived.Lib.AtoiTie
import Derived.Lib.ParseIntBTie
import Derived.Lib.Strings
import Derived.Lib.TrimByte
import Derived.Lib.Repeat
namespace Go.Proofs.YtimbbdlngmkjbaaDoor
open Go.Lib

theorem decFrom_app (l m : List UInt8) : ∀ a, decFrom a (l ++ m) = (decFrom a l).bind fun b => decFrom b m := by
  induction l with
  | nil => intro a; rfl
  | cons x r ih =>
    intro a
    simp only [List.cons_append, decFrom]
    cases digitVal x with
    | none => rfl
    | some d => exact ih _

theorem decFrom_zeros (k : Nat) : decFrom 0 (List.replicate k 48) = some 0 := by
  induction k with
  | zero => rfl
  | succ k ih =>
    rw [List.replicate_succ]
    simp only [decFrom]
    have : digitVal 48 = some 0 := by decide
    rw [this]
    exact ih

theorem digit_of (u : Nat) (h : u < 10) : digitVal (UInt8.ofNat (48 + u)) = some u := by
  have e : (UInt8.ofNat (48 + u)).toNat = 48 + u := by rw [UInt8.toNat_ofNat']; omega
  unfold digitVal
  rw [e, if_pos (by omega)]
  congr 1
  omega

theorem dec_step {u : Nat} (h : ¬ u < 10) : decDigits u = decDigits (u / 10) ++ [UInt8.ofNat (48 + u % 10)] := by
  rw [decDigits, dif_neg h]
theorem dec_one {u : Nat} (h : u < 10) : decDigits u = [UInt8.ofNat (48 + u)] := by
  rw [decDigits, dif_pos h]

theorem dec_back (u : Nat) : decFrom 0 (decDigits u) = some u := by
  induction u using Nat.strongRecOn with
  | ind u ih =>
    by_cases h : u < 10
    · rw [dec_one h]
      simp only [decFrom, digit_of u h]
      simp
    · rw [dec_step h, decFrom_app, ih (u / 10) (by omega)]
      simp only [Option.bind_some, decFrom, digit_of (u % 10) (by omega)]
      congr 1
      omega

theorem dec_len : ∀ (k u : Nat), u < 10 ^ (k + 1) → (decDigits u).length ≤ k + 1
  | 0, u, h => by rw [dec_one (by simpa using h)]; simp
  | k + 1, u, h => by
    by_cases h10 : u < 10
    · rw [dec_one h10]; simp
    · rw [dec_step h10, List.length_append, List.length_singleton]
      have := dec_len k (u / 10) (by rw [Nat.pow_succ] at h; omega)
      omega

theorem dec_ne (u : Nat) : decDigits u ≠ [] := by
  intro h
  have := dec_back u
  by_cases h10 : u < 10
  · rw [dec_one h10] at h; cases h
  · rw [dec_step h10] at h; simp at h

/-- No nought stands ahead of a number that is none. -/
theorem dec_head (u : Nat) (h0 : 0 < u) : ∃ b r, decDigits u = b :: r ∧ b ≠ 48 := by
  induction u using Nat.strongRecOn with
  | ind u ih =>
    by_cases h : u < 10
    · refine ⟨_, [], dec_one h, fun e => ?_⟩
      have h1 := congrArg UInt8.toNat e
      rw [UInt8.toNat_ofNat'] at h1
      have : (48 : UInt8).toNat = 48 := by decide
      omega
    · obtain ⟨b, r, e, hb⟩ := ih (u / 10) (by omega) (by omega)
      exact ⟨b, r ++ [UInt8.ofNat (48 + u % 10)], by rw [dec_step h, e]; rfl, hb⟩

def zeros (n : Nat) : List UInt8 := List.replicate (10 - (decDigits n).length) 48
/-- A number, of ten digits at least. -/
def pad (n : Nat) : List UInt8 := zeros n ++ decDigits n
def dotlog : List UInt8 := [46, 108, 111, 103]
/-- A segment's file. -/
def segName (d : List UInt8) (n : Nat) : List UInt8 := d ++ [47] ++ pad n ++ dotlog

theorem pad_len {n : Nat} (h : n ≤ 1099511627776) : (pad n).length ≤ 13 := by
  unfold pad zeros
  rw [List.length_append, List.length_replicate]
  have := dec_len 12 n (by omega)
  omega

theorem pad_dec (n : Nat) : decNat (pad n) = some n := by
  have h : decFrom 0 (pad n) = some n := by
    unfold pad zeros
    rw [decFrom_app, decFrom_zeros]
    exact dec_back n
  unfold decNat
  have : (pad n).isEmpty = false := by
    unfold pad
    cases hd : zeros n ++ decDigits n with
    | nil => exact absurd (List.append_eq_nil_iff.1 hd).2 (dec_ne n)
    | cons _ _ => rfl
  rw [this]
  simpa using h

theorem atoi_of_dec {l : List UInt8} {n : Nat} (h : decNat l = some n) : atoi l = some (n : Int) := by
  cases l with
  | nil => simp [decNat] at h
  | cons b r =>
    have h0 : decFrom 0 (b :: r) = some n := by
      unfold decNat at h
      simpa using h
    obtain ⟨d, hd⟩ := digit_of_decFrom _ _ _ h0 0 b rfl
    have hne : b ≠ 45 ∧ b ≠ 43 := by
      constructor <;> (rintro rfl; simp [digitVal] at hd)
    unfold atoi
    simp [hne.1, hne.2, h]

theorem dec_nat (n : Nat) : decNat (decDigits n) = some n := by
  unfold decNat
  have : (decDigits n).isEmpty = false := by
    cases hd : decDigits n with
    | nil => exact absurd hd (dec_ne n)
    | cons _ _ => rfl
  rw [this]
  simpa using dec_back n

theorem pad_atoi {n : Nat} (h : n ≤ 1099511627776) : atoiAll (pad n) = .ok (n : Int) := by
  rw [atoiAll_short _ (by have := pad_len h; omega), atoi_of_dec (pad_dec n)]
  rfl

theorem dec_atoi {n : Nat} (h : n ≤ 1099511627776) : atoiAll (decDigits n) = .ok (n : Int) := by
  rw [atoiAll_short _ (by have := dec_len 12 n (by omega); omega), atoi_of_dec (dec_nat n)]
  rfl

/-- What the document's Number makes of a text. -/
def numR (s : List UInt8) : Int × Bool :=
  match parseIntB 64 s with
  | .ok v => if itoa v = s then (v, true) else (0, false)
  | _ => (0, false)

theorem numR_dec {n : Nat} (h : n ≤ 1099511627776) : numR (decDigits n) = ((n : Int), true) := by
  unfold numR
  rw [parseIntB_64, dec_atoi h]
  simp only [itoa_nonneg, if_true]

/-- The program's segment.Base. -/
def progBase (d nm : List UInt8) : Int :=
  let s := trimPrefix nm (d ++ [47])
  if hasSuffix s dotlog then
    match atoiAll (trimSuffix s dotlog) with
    | .ok v => if 0 ≤ v ∧ v ≤ 1099511627776 ∧ segName d v.toNat = nm then v else -1
    | _ => -1
  else -1

/-- The document's. -/
def refNum (s : List UInt8) : Int × Bool := if trimB s 48 = [] ∧ s ≠ [] then (0, true) else numR (trimLeftB s 48)
def refBase (d nm : List UInt8) : Int :=
  let r := refNum (trimSuffix (trimPrefix nm (d ++ [47])) dotlog)
  if r.2 = true ∧ 0 ≤ r.1 ∧ r.1 ≤ 1099511627776 ∧ segName d r.1.toNat = nm then r.1 else -1

theorem cut_pre (p l : List UInt8) : trimPrefix (p ++ l) p = l := by
  unfold trimPrefix hasPrefix
  rw [if_pos (by simp), List.drop_left]
theorem has_suf (l p : List UInt8) : hasSuffix (l ++ p) p = true := by
  unfold hasSuffix
  simp
theorem cut_suf (l p : List UInt8) : trimSuffix (l ++ p) p = l := by
  unfold trimSuffix
  rw [if_pos (has_suf l p), List.length_append, Nat.add_sub_cancel, List.take_left]

theorem segName_eq (d : List UInt8) (n : Nat) : segName d n = (d ++ [47]) ++ (pad n ++ dotlog) := by
  unfold segName
  rw [List.append_assoc]

theorem prog_hit (d : List UInt8) {n : Nat} (h : n ≤ 1099511627776) : progBase d (segName d n) = n := by
  unfold progBase
  simp only
  rw [show trimPrefix (segName d n) (d ++ [47]) = pad n ++ dotlog by rw [segName_eq]; exact cut_pre _ _]
  rw [has_suf, cut_suf, pad_atoi h]
  simp only [if_true]
  rw [if_pos ⟨by omega, by omega, by rw [Int.toNat_natCast]⟩]

theorem prog_miss {d nm : List UInt8} (h : ∀ n : Nat, n ≤ 1099511627776 → segName d n ≠ nm) : progBase d nm = -1 := by
  unfold progBase
  simp only
  split
  · split
    · rename_i v _
      rw [if_neg (fun ⟨h0, h1, h2⟩ => h v.toNat (by omega) h2)]
    · rfl
  · rfl

theorem dropWhile_rep (k : Nat) (l : List UInt8) : (List.replicate k 48 ++ l).dropWhile (· == (48 : UInt8)) = l.dropWhile (· == (48 : UInt8)) := by
  induction k with
  | zero => rfl
  | succ k ih => rw [List.replicate_succ, List.cons_append, List.dropWhile_cons_of_pos (by rfl)]; exact ih

theorem pad_left {n : Nat} (h0 : 0 < n) : trimLeftB (pad n) 48 = decDigits n := by
  obtain ⟨b, r, e, hb⟩ := dec_head n h0
  unfold pad zeros trimLeftB
  rw [dropWhile_rep, e, List.dropWhile_cons_of_neg (by simpa using hb)]

theorem dropWhile_none {p : UInt8 → Bool} : ∀ {l : List UInt8}, l.dropWhile p = [] → ∀ x ∈ l, p x = true
  | [], _, x, hx => by cases hx
  | b :: r, h, x, hx => by
    by_cases hb : p b = true
    · rw [List.dropWhile_cons_of_pos hb] at h
      rcases List.mem_cons.1 hx with rfl | hx
      · exact hb
      · exact dropWhile_none h x hx
    · rw [List.dropWhile_cons_of_neg hb] at h
      cases h

theorem trimB_all {l : List UInt8} (h : trimB l 48 = []) : ∀ x ∈ l, x = 48 := by
  unfold trimB trimLeftB at h
  replace h := dropWhile_none h
  unfold trimRightB at h
  cases hm : l.reverse.dropWhile (· == (48 : UInt8)) with
  | nil =>
    replace hm := dropWhile_none hm
    intro x hx
    simpa using hm x (by simpa using hx)
  | cons b r =>
    rw [hm] at h
    have h1 := h b (by simp)
    have h2 := List.head_dropWhile_not (p := fun x : UInt8 => x == 48) (l := l.reverse) (by rw [hm]; simp)
    simp only [hm, List.head_cons] at h2
    rw [h1] at h2
    cases h2

theorem refNum_pad {n : Nat} (h : n ≤ 1099511627776) : refNum (pad n) = ((n : Int), true) := by
  unfold refNum
  by_cases h0 : n = 0
  · subst h0
    rw [if_pos]
    · rfl
    · have : pad 0 = List.replicate 10 48 := by unfold pad zeros; rw [dec_one (by omega)]; rfl
      rw [this]
      exact ⟨by decide, by decide⟩
  · have hne : trimB (pad n) 48 ≠ [] := by
      intro e
      obtain ⟨b, r, e2, hb⟩ := dec_head n (by omega)
      have hm : b ∈ pad n := by unfold pad; rw [e2]; simp
      exact hb (trimB_all e b hm)
    rw [if_neg (fun h => hne h.1), pad_left (by omega)]
    exact numR_dec h

theorem ref_hit (d : List UInt8) {n : Nat} (h : n ≤ 1099511627776) : refBase d (segName d n) = n := by
  unfold refBase
  simp only
  rw [show trimPrefix (segName d n) (d ++ [47]) = pad n ++ dotlog by rw [segName_eq]; exact cut_pre _ _]
  rw [cut_suf, refNum_pad h]
  rw [if_pos ⟨rfl, by simp only; omega, by simp only; omega, by rw [Int.toNat_natCast]⟩]

theorem ref_miss {d nm : List UInt8} (h : ∀ n : Nat, n ≤ 1099511627776 → segName d n ≠ nm) : refBase d nm = -1 := by
  unfold refBase
  simp only
  rw [if_neg (fun ⟨_, h0, h1, h2⟩ => h _ (by omega) h2)]

/-- THE PLAIN LAW. -/
theorem bases_eq (d nm : List UInt8) : progBase d nm = refBase d nm := by
  by_cases h : ∃ n : Nat, n ≤ 1099511627776 ∧ segName d n = nm
  · obtain ⟨n, hn, rfl⟩ := h
    rw [prog_hit d hn, ref_hit d hn]
  · have h' : ∀ n : Nat, n ≤ 1099511627776 → segName d n ≠ nm := fun n hn e => h ⟨n, hn, e⟩
    rw [prog_miss h', ref_miss h']
end Go.Proofs.YtimbbdlngmkjbaaDoor
