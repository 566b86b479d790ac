/-
  The plain law of numbers as bytes: seven bits a byte, the least ones first. Plain Lean: no program in sight.
-/
import Derived.Test.YtdjmifaidgbbaaaGreatDoorLc01
import Derived.Test.YtdjmifaidgbbaaaGreatDoorLc05
import Derived.Test.YtdjmifaidgbbaaaGreatDoorLc04
import Derived.Tactics2
import Derived.StillTailTactics
import Derived.Deep.CutBlock
namespace Go.Proofs.YtdjmifaidgbbaaaGreatDoor

/-- A number's bytes. -/
def put (n : Nat) : List UInt8 :=
  if h : n < 128 then [UInt8.ofNat n] else UInt8.ofNat (n % 128 + 128) :: put (n / 128)
termination_by n
decreasing_by omega

theorem put_lo {n : Nat} (h : n < 128) : put n = [UInt8.ofNat n] := by rw [put, dif_pos h]
theorem put_hi {n : Nat} (h : 128 ≤ n) : put n = UInt8.ofNat (n % 128 + 128) :: put (n / 128) := by rw [put, dif_neg (by omega)]
theorem put_ne (n : Nat) : put n ≠ [] := by
  by_cases h : n < 128
  · rw [put_lo h]; simp
  · rw [put_hi (by omega)]; simp
theorem put_length {k n : Nat} (h : n < 128 ^ (k + 1)) : (put n).length ≤ k + 1 := by
  induction k generalizing n with
  | zero => rw [put_lo (by simpa using h)]; simp
  | succ k ih =>
    by_cases h1 : n < 128
    · rw [put_lo h1]; simp
    · rw [put_hi (by omega)]
      have : n / 128 < 128 ^ (k + 1) := by rw [Nat.pow_succ] at h; omega
      have := ih this
      simp
      omega
theorem put_length63 {n : Nat} (h : n < 9223372036854775808) : (put n).length ≤ 9 := put_length (k := 8) (by omega)
theorem put_length_pos (n : Nat) : 0 < (put n).length := by
  cases h : put n with
  | nil => exact absurd h (put_ne n)
  | cons => simp

/-- The number that bytes tell, whatever they are. -/
def val : List UInt8 → Nat
  | [] => 0
  | c :: l => c.toNat % 128 + 128 * val l
theorem val_snoc (l : List UInt8) (c : UInt8) : val (l ++ [c]) = val l + c.toNat % 128 * 128 ^ l.length := by
  induction l with
  | nil => simp [val]
  | cons x l ih =>
    simp only [List.cons_append, val, ih, List.length_cons, Nat.pow_succ]
    rw [Nat.mul_add, ← Nat.add_assoc]
    congr 1
    rw [Nat.mul_comm 128, Nat.mul_assoc]
theorem val_lt (l : List UInt8) : val l < 128 ^ l.length := by
  induction l with
  | nil => simp [val]
  | cons x l ih =>
    simp only [val, List.length_cons, Nat.pow_succ]
    have := Nat.mod_lt x.toNat (show 0 < 128 by omega)
    omega

/-- All but the last byte have 128 added; the last has not; and it is not 0, unless it is the only one. -/
def Made : List UInt8 → Prop
  | [] => False
  | [c] => c.toNat < 128
  | c :: d :: l => 128 ≤ c.toNat ∧ (l = [] → d ≠ 0) ∧ Made (d :: l)

theorem u8_lt' (c : UInt8) : c.toNat < 256 := c.toNat_lt
theorem ofNat_hi {c : UInt8} (h : 128 ≤ c.toNat) (v : Nat) : UInt8.ofNat ((c.toNat % 128 + 128 * v) % 128 + 128) = c := by
  have := u8_lt' c
  apply UInt8.toNat_inj.1
  rw [UInt8.toNat_ofNat']
  omega
theorem put_val_of_made : ∀ {l : List UInt8}, Made l → put (val l) = l
  | [], h => h.elim
  | [c], h => by
    simp only [Made] at h
    have e : val [c] = c.toNat := by simp [val]; omega
    rw [e, put_lo h]
    simp
  | c :: d :: l, h => by
    obtain ⟨h1, h2, h3⟩ := h
    have ih := put_val_of_made h3
    have hpos : 0 < val (d :: l) := by
      rcases Nat.eq_zero_or_pos (val (d :: l)) with h0 | h0
      · rw [h0, put_lo (by omega)] at ih
        simp only [List.cons.injEq] at ih
        exact absurd ih.1.symm (h2 ih.2.symm)
      · exact h0
    rw [val, put_hi (by omega), ofNat_hi h1]
    congr 1
    have e : (c.toNat % 128 + 128 * val (d :: l)) / 128 = val (d :: l) := by omega
    rw [e, ih]
theorem toNat_small {n : Nat} (h : n < 256) : (UInt8.ofNat n).toNat = n := by rw [UInt8.toNat_ofNat']; omega
theorem val_put (n : Nat) : val (put n) = n := by
  induction n using Nat.strongRecOn with
  | ind n ih =>
    by_cases h : n < 128
    · rw [put_lo h]
      simp only [val, toNat_small (show n < 256 by omega)]
      omega
    · rw [put_hi (by omega)]
      simp only [val, toNat_small (show n % 128 + 128 < 256 by omega), ih (n / 128) (by omega)]
      omega
theorem put_inj {m n : Nat} (h : put m = put n) : m = n := by rw [← val_put m, ← val_put n, h]

/-- The bytes of a run of high ones and a last low one. -/
theorem made_iff {l : List UInt8} {c : UInt8} (hhi : ∀ x ∈ l, 128 ≤ x.toNat) (hc : c.toNat < 128) : Made (l ++ [c]) ↔ ¬ (c = 0 ∧ 0 < l.length) := by
  induction l with
  | nil => simp [Made, hc]
  | cons x l ih =>
    have ih := ih (fun y hy => hhi y (by simp [hy]))
    have hx := hhi x (by simp)
    cases l with
    | nil =>
      simp [Made, hx, hc]
    | cons y l =>
      have e : x :: y :: l ++ [c] = x :: y :: (l ++ [c]) := rfl
      rw [e, Made]
      simp only [List.cons_append] at ih
      rw [ih]
      simp [hx]
theorem put_snoc_iff {l : List UInt8} {c : UInt8} (hhi : ∀ x ∈ l, 128 ≤ x.toNat) (hc : c.toNat < 128) : put (val (l ++ [c])) = l ++ [c] ↔ ¬ (c = 0 ∧ 0 < l.length) := by
  constructor
  · intro h hz
    obtain ⟨rfl, hl⟩ := hz
    -- the last byte that Put writes behind others is not 0
    have key : ∀ n, 128 ≤ n → ∀ m : List UInt8, put n = m ++ [0] → False := by
      intro n
      induction n using Nat.strongRecOn with
      | ind n ih =>
        intro hn m hm
        rw [put_hi hn] at hm
        cases m with
        | nil => simp at hm; exact absurd hm.2 (put_ne _)
        | cons y m =>
          simp only [List.cons_append, List.cons.injEq] at hm
          by_cases h2 : n / 128 < 128
          · rw [put_lo h2] at hm
            cases m with
            | nil =>
              simp only [List.nil_append, List.cons.injEq, and_true] at hm
              have := congrArg UInt8.toNat hm.2
              rw [toNat_small (by omega)] at this
              have h0 : (0 : UInt8).toNat = 0 := rfl
              omega
            | cons => simp at hm
          · exact ih _ (by omega) (by omega) m hm.2
    by_cases h1 : val (l ++ [0]) < 128
    · rw [put_lo h1] at h
      have := congrArg List.length h
      simp only [List.length_cons, List.length_nil, List.length_append] at this
      omega
    · exact key _ (by omega) l h
  · intro h
    exact put_val_of_made ((made_iff hhi hc).2 h)

/-- THE NUMBER AT THE BEGINNING OF BYTES, from place k on, where those ahead of it have 128 added. -/
def getAt (l : List UInt8) : Nat → Nat → Nat × Nat
  | 0, _ => (0, 0)
  | f + 1, k =>
    match l[k]? with
    | none => (0, 0)
    | some c =>
      if c.toNat < 128 then
        if c = 0 ∧ 0 < k ∨ 1099511627776 < val (l.take (k + 1)) then (0, 0) else (val (l.take (k + 1)), k + 1)
      else getAt l f (k + 1)
def get (l : List UInt8) : Nat × Nat := getAt l 6 0

theorem getAt_none {l : List UInt8} {f k : Nat} (h : l.length ≤ k) : getAt l f k = (0, 0) := by
  cases f with
  | zero => rfl
  | succ f => rw [getAt, List.getElem?_eq_none h]
theorem getAt_end {l : List UInt8} {f k : Nat} (h : k < l.length) (hc : l[k].toNat < 128) (hb : l[k] = 0 ∧ 0 < k ∨ 1099511627776 < val (l.take (k + 1))) : getAt l (f + 1) k = (0, 0) := by
  rw [getAt, List.getElem?_eq_getElem h]
  simp only
  rw [if_pos hc, if_pos hb]
theorem getAt_ok {l : List UInt8} {f k : Nat} (h : k < l.length) (hc : l[k].toNat < 128) (hb : ¬ (l[k] = 0 ∧ 0 < k ∨ 1099511627776 < val (l.take (k + 1)))) : getAt l (f + 1) k = (val (l.take (k + 1)), k + 1) := by
  rw [getAt, List.getElem?_eq_getElem h]
  simp only
  rw [if_pos hc, if_neg hb]
theorem getAt_on {l : List UInt8} {f k : Nat} (h : k < l.length) (hc : ¬ l[k].toNat < 128) : getAt l (f + 1) k = getAt l f (k + 1) := by
  rw [getAt, List.getElem?_eq_getElem h]
  simp only
  rw [if_neg hc]
theorem getAt_bounds (l : List UInt8) : ∀ f k, (getAt l f k).1 ≤ 1099511627776 ∧ ((getAt l f k).2 = 0 ∧ (getAt l f k).1 = 0 ∨ k < (getAt l f k).2 ∧ (getAt l f k).2 ≤ l.length ∧ (getAt l f k).2 ≤ k + f)
  | 0, k => by simp [getAt]
  | f + 1, k => by
    by_cases h : k < l.length
    · by_cases hc : l[k].toNat < 128
      · by_cases hb : l[k] = 0 ∧ 0 < k ∨ 1099511627776 < val (l.take (k + 1))
        · rw [getAt_end h hc hb]; simp
        · rw [getAt_ok h hc hb]
          exact ⟨by simp only; omega, .inr ⟨by simp, by simp only; omega, by simp only; omega⟩⟩
      · rw [getAt_on h hc]
        have := getAt_bounds l f (k + 1)
        omega
    · rw [getAt_none (by omega)]; simp
theorem get_le (l : List UInt8) : (get l).1 ≤ 1099511627776 := (getAt_bounds l 6 0).1
theorem get_size (l : List UInt8) : (get l).2 ≤ l.length ∧ (get l).2 ≤ 6 := by have := (getAt_bounds l 6 0).2; unfold get; omega
theorem get_zero (l : List UInt8) (h : (get l).2 = 0) : (get l).1 = 0 := by have := (getAt_bounds l 6 0).2; unfold get at *; omega

/-- What is read is what Put writes. -/
theorem getAt_put (l : List UInt8) : ∀ f k, (∀ x ∈ l.take k, 128 ≤ x.toNat) → (getAt l f k).2 ≠ 0 → k ≤ l.length → l.take (getAt l f k).2 = put (getAt l f k).1
  | 0, k, _, h0, _ => by simp [getAt] at h0
  | f + 1, k, hhi, h0, hk => by
    by_cases h : k < l.length
    · by_cases hc : l[k].toNat < 128
      · by_cases hb : l[k] = 0 ∧ 0 < k ∨ 1099511627776 < val (l.take (k + 1))
        · rw [getAt_end h hc hb] at h0; simp at h0
        · rw [getAt_ok h hc hb]
          simp only
          have e : l.take (k + 1) = l.take k ++ [l[k]] := by rw [List.take_succ_eq_append_getElem h]
          rw [e]
          symm
          rw [put_snoc_iff hhi hc, List.length_take]
          intro hz
          exact hb (.inl ⟨hz.1, by omega⟩)
      · rw [getAt_on h hc] at h0 ⊢
        refine getAt_put l f (k + 1) ?_ h0 (by omega)
        intro x hx
        rw [List.take_succ_eq_append_getElem h] at hx
        rcases List.mem_append.1 hx with hx | hx
        · exact hhi x hx
        · simp only [List.mem_singleton] at hx
          subst hx
          omega
    · rw [getAt_none (by omega)] at h0; simp at h0
theorem get_put (l : List UInt8) (h : (get l).2 ≠ 0) : l.take (get l).2 = put (get l).1 := getAt_put l 6 0 (by simp) h (Nat.zero_le _)

/-- A number that Put wrote is read again, whatever stands behind it. -/
theorem getAt_of_made : ∀ (q : List UInt8) (l more : List UInt8) (f : Nat), l ≠ [] → (∀ x ∈ q, 128 ≤ x.toNat) → Made l → q.length + l.length ≤ q.length + f → (0 < q.length → l ≠ [0]) → val (q ++ l) ≤ 1099511627776 →
    getAt (q ++ l ++ more) f q.length = (val (q ++ l), (q ++ l).length) := by
  intro q l
  induction l generalizing q with
  | nil => intro _ _ h; exact absurd rfl h
  | cons c l ih =>
    intro more f _ hhi hm hf hz hv
    have hlt : q.length < (q ++ c :: l ++ more).length := by simp
    have hget : (q ++ c :: l ++ more)[q.length] = c := by simp
    cases f with
    | zero => simp at hf; omega
    | succ f =>
      cases l with
      | nil =>
        simp only [Made] at hm
        have e : (q ++ [c] ++ more).take (q.length + 1) = q ++ [c] := by
          rw [List.take_append_of_le_length (by simp)]
          rw [List.take_of_length_le (by simp)]
        rw [getAt_ok hlt (by rw [hget]; exact hm)]
        · rw [e]; simp
        · rw [hget, e]
          intro h
          rcases h with ⟨rfl, h2⟩ | h
          · exact hz h2 rfl
          · omega
      | cons d l =>
        obtain ⟨h1, h2, h3⟩ := hm
        rw [getAt_on hlt (by rw [hget]; omega)]
        have e : q ++ c :: d :: l = (q ++ [c]) ++ d :: l := by simp
        have el : q.length + 1 = (q ++ [c]).length := by simp
        rw [e, el]
        refine ih (q ++ [c]) more f (by simp) ?_ h3 (by simp at hf ⊢; omega) ?_ (by rw [← e]; exact hv)
        · intro x hx
          rcases List.mem_append.1 hx with hx | hx
          · exact hhi x hx
          · simp only [List.mem_singleton] at hx
            subst hx; exact h1
        · intro _ hd
          simp only [List.cons.injEq] at hd
          exact h2 hd.2 hd.1
theorem made_put (n : Nat) : Made (put n) := by
  induction n using Nat.strongRecOn with
  | ind n ih =>
    by_cases h : n < 128
    · rw [put_lo h]
      simp only [Made, toNat_small (show n < 256 by omega)]
      exact h
    · have ih := ih (n / 128) (by omega)
      rw [put_hi (by omega)]
      cases hp : put (n / 128) with
      | nil => exact absurd hp (put_ne _)
      | cons d l =>
        refine ⟨by rw [toNat_small (by omega)]; omega, fun hl hd => ?_, by rw [← hp]; exact ih⟩
        subst hl; subst hd
        have hv := val_put (n / 128)
        rw [hp] at hv
        simp [val] at hv
        omega
theorem get_of_put (n : Nat) (more : List UInt8) (h : n ≤ 1099511627776) : get (put n ++ more) = (n, (put n).length) := by
  have hl : (put n).length ≤ 6 := put_length (k := 5) (by omega)
  have := getAt_of_made [] (put n) more 6 (put_ne n) (by simp) (made_put n) (by simpa using hl) (by simp) (by simpa [val_put] using h)
  simpa [get, val_put] using this
end Go.Proofs.YtdjmifaidgbbaaaGreatDoor

/-
  Records and batches: plain data, and when a batch may be. Plain Lean, but for the values.
-/
namespace Go.Proofs.YtdjmifaidgbbaaaGreatDoor
open Go.RowKit

structure Rec where
  off : Int
  time : Int
  keyed : Bool
  key : ByteArray
  gone : Bool
  value : ByteArray

def Rec.cells (r : Rec) : List Value := [.int .i64 r.off, .int .i64 r.time, .bool r.keyed, .string r.key, .bool r.gone, .string r.value]
theorem Rec.cells_length (r : Rec) : r.cells.length = 6 := rfl

/-- A record that memory can hold. -/
structure Rec.Ok (r : Rec) : Prop where
  off : -9223372036854775808 ≤ r.off ∧ r.off ≤ 9223372036854775807
  time : -9223372036854775808 ≤ r.time ∧ r.time ≤ 9223372036854775807
  key : r.key.size ≤ maxLen
  value : r.value.size ≤ maxLen

/-- A slice's first cells are these records (nil: there are none). -/
def RecsAt (w : World) (a : Option Addr) (rs : List Rec) : Prop :=
  ∀ i (h : i < rs.length), ∃ b off, a = some ⟨b, off, none⟩ ∧ ∀ j u, rs[i].cells[j]? = some u → w.cell? ⟨b, off + i * 6 + j, none⟩ = some u

theorem RecsAt.chg {S : Nat → Prop} {w w' : World} (h : Chg S w w') {a : Option Addr} {rs : List Rec} (hb : RecsAt w a rs) (hn : ∀ x, a = some x → ¬ S x.block) : RecsAt w' a rs := by
  intro i hi
  obtain ⟨b, off, ha, hc⟩ := hb i hi
  exact ⟨b, off, ha, fun j u hj => h.cell (hc j u hj) (show ¬ S b from hn ⟨b, off, none⟩ ha)⟩

/-- A block that begins with these cells. -/
def BoxAt (w : World) (g : Nat) (cs : List Value) : Prop := ∀ j u, cs[j]? = some u → w.cell? ⟨g, j, none⟩ = some u
theorem BoxAt.new (w : World) (cs : List Value) (t : TypeId) : BoxAt (w.alloc (.cells cs.toArray t)) w.heap.size cs := by
  intro j u hj
  rw [cell_of_row _ w.heap.size j cs.toArray t (0, 0) (heap_alloc_new w _)]
  simpa using hj
theorem BoxAt.chg {S : Nat → Prop} {w w' : World} {g : Nat} {cs : List Value} (h : BoxAt w g cs) (hg : Chg S w w') (hn : ¬ S g) : BoxAt w' g cs :=
  fun j u hj => hg.cell (h j u hj) hn

/-- What is wrong with records, behind one at 'last': 0: nothing; 1: ErrArg; 2: ErrRange; 4: ErrLimit. -/
def badArg (last en : Int) (r : Rec) : Bool := decide (r.off ≤ last) || decide (en ≤ r.off) || (!r.keyed && !(r.key.toList.isEmpty)) || (r.gone && !(r.value.toList.isEmpty))
def badLen (r : Rec) : Bool := decide (60 < r.key.size) || decide (500 < r.value.size)
def badTime (r : Rec) : Bool := decide (r.time < 0) || decide (1099511627776 < r.time)
def checkRecs (en : Int) : Int → List Rec → Nat
  | _, [] => 0
  | last, r :: rs => if badArg last en r = true then 1 else if badLen r = true then 4 else if badTime r = true then 2 else checkRecs en r.off rs
def checkB (base en : Int) (rs : List Rec) : Nat :=
  if base < 0 ∨ 1099511627776 < en then 2 else if en ≤ base then 1 else if 50 < rs.length ∨ 50 < en - base then 4 else checkRecs en (base - 1) rs

/-- An error's value. -/
def errV (t : TypeId) (k : Nat) : Value := if k = 0 then .nilIface else .iface t (.int .i64 (k : Int))
end Go.Proofs.YtdjmifaidgbbaaaGreatDoor

/-
  What Compact asks of each record. (Of the logs' seat.)
-/
set_option linter.unusedSimpArgs false
set_option linter.unusedVariables false
namespace Go.Proofs.YtdjmifaidgbbaaaGreatDoor
open Go.RowKit Go.Maps

/-- Whether a record goes: there is one of its key behind it, or it is an old tombstone. -/
def goneR (fs : List (Nm × Int)) (lim : Int) (r : Rec) : Bool := r.keyed && (decide (r.off < (fs.lookup r.key.data.toList).getD 0) || (r.gone && decide (r.time < lim)))
/-- What the question looks at. -/
structure GcW (w : World) (bm bn ba bk mb : Nat) (now age : Int) (k : Nat) (fs : List (Nm × Int)) : Prop where
  m : Box w bm [.map (some mb)] 49
  n : Box w bn [.int .i64 now] 3
  a : Box w ba [.int .i64 age] 3
  k : Box w bk [.int .i64 (k : Nat)] 3
  mp : NumsAt w mb fs
  ne : bk ≠ bm ∧ bk ≠ bn ∧ bk ≠ ba ∧ bk ≠ mb
theorem GcW.nil {S : Nat → Prop} {w w' : World} {bm bn ba bk mb : Nat} {now age : Int} {k : Nat} {fs : List (Nm × Int)} (h : GcW w bm bn ba bk mb now age k fs) (hc : Chg S w w') (hn : ∀ i, (i = bm ∨ i = bn ∨ i = ba ∨ i = bk ∨ i = mb) → ¬ S i) : GcW w' bm bn ba bk mb now age k fs :=
  ⟨h.m.chg hc (hn _ (.inl rfl)), h.n.chg hc (hn _ (.inr (.inl rfl))), h.a.chg hc (hn _ (.inr (.inr (.inl rfl)))), h.k.chg hc (hn _ (.inr (.inr (.inr (.inl rfl))))), h.mp.chg hc (hn _ (.inr (.inr (.inr (.inr rfl))))), h.ne⟩
theorem GcW.more {w w' : World} {bm bn ba bk mb : Nat} {now age : Int} {k k' : Nat} {fs : List (Nm × Int)} (h : GcW w bm bn ba bk mb now age k fs) (hc : Chg (fun i => i = bk) w w') (hb : Box w' bk [.int .i64 (k' : Nat)] 3) : GcW w' bm bn ba bk mb now age k' fs :=
  ⟨h.m.chg hc (fun e => h.ne.1 e.symm), h.n.chg hc (fun e => h.ne.2.1 e.symm), h.a.chg hc (fun e => h.ne.2.2.1 e.symm), hb, h.mp.chg hc (fun e => h.ne.2.2.2 e.symm), h.ne⟩
def cntB (b : Bool) : Nat := if b = true then 1 else 0
/-- The function that asks. -/
def askF (bm bn ba bk : Nat) : Value := .func (.func 67) #[] #[.pointer (some ⟨bm, 0, none⟩), .pointer (some ⟨bn, 0, none⟩), .pointer (some ⟨ba, 0, none⟩), .pointer (some ⟨bk, 0, none⟩)]

set_option maxHeartbeats 1000000 in
set_option maxRecDepth 20000 in
theorem gone_any {w : World} {bm bn ba bk mb : Nat} {now age : Int} {k : Nat} {fs : List (Nm × Int)} (h : GcW w bm bn ba bk mb now age k fs) (hk : k ≤ 1000000) (r : Rec) (hr : r.key.size ≤ maxLen) :
    Calls Tryz.prog 67 #[.agg r.cells.toArray, .pointer (some ⟨bm, 0, none⟩), .pointer (some ⟨bn, 0, none⟩), .pointer (some ⟨ba, 0, none⟩), .pointer (some ⟨bk, 0, none⟩)] w fun e w' =>
      e = .returned (.bool (goneR fs (wrap64 (now - age)) r)) ∧ GcW w' bm bn ba bk mb now age (k + cntB (goneR fs (wrap64 (now - age)) r)) fs ∧ Chg (fun i => i = bk) w w' := by
  obtain ⟨ro, rt, rk, rkey, rg, rval⟩ := r
  have earr : (Rec.cells ⟨ro, rt, rk, rkey, rg, rval⟩).toArray = #[.int .i64 ro, .int .i64 rt, .bool rk, .string rkey, .bool rg, .string rval] := rfl
  rw [earr]
  clear earr
  have hal : Chg Nil w (w.alloc (.cells #[.int .i64 ro, .int .i64 rt, .bool rk, .string rkey, .bool rg, .string rval] 37)) := (Chg.refl Nil w).alloc _
  have hbx := Box.new w [.int .i64 ro, .int .i64 rt, .bool rk, .string rkey, .bool rg, .string rval] 37
  have hg := h.nil hal (fun _ _ h => h)
  have hbx : Box (w.alloc (.cells #[.int .i64 ro, .int .i64 rt, .bool rk, .string rkey, .bool rg, .string rval] 37)) w.heap.size [.int .i64 ro, .int .i64 rt, .bool rk, .string rkey, .bool rg, .string rval] 37 := hbx
  have hlk := hg.mp.look (s := rkey) hr
  have cm := hg.m.cell (j := 0) rfl
  have cn := hg.n.cell (j := 0) rfl
  have ca := hg.a.cell (j := 0) rfl
  have ck := hg.k.cell (j := 0) rfl
  have fk := hg.k.free 0
  have y0 := hbx.cell (j := 0) rfl
  have y1 := hbx.cell (j := 1) rfl
  have y2 := hbx.cell (j := 2) rfl
  have y3 := hbx.cell (j := 3) rfl
  have y4 := hbx.cell (j := 4) rfl
  have HG := Lib.hid hg
  have HAL := Lib.hid hal
  obtain ⟨lv, hlv⟩ : ∃ lv, (fs.lookup rkey.data.toList).getD 0 = lv := ⟨_, rfl⟩
  obtain ⟨lim, hlim⟩ : ∃ lim, wrap64 (now - age) = lim := ⟨_, rfl⟩
  rw [hlv] at hlk
  have HGO : Hid (goneR fs (wrap64 (now - age)) ⟨ro, rt, rk, rkey, rg, rval⟩ = (rk && (decide (ro < lv) || (rg && decide (rt < lim))))) := by unfold Hid goneR; rw [← hlv, ← hlim]
  rw [HGO.out]
  have HST : Hid (∀ w1, GcW w1 bm bn ba bk mb now age k fs → Chg Nil w w1 → GcW (w1.setCell ⟨bk, 0, none⟩ (.int .i64 ((k : Int) + 1))) bm bn ba bk mb now age (k + 1) fs ∧ Chg (fun i => i = bk) w (w1.setCell ⟨bk, 0, none⟩ (.int .i64 ((k : Int) + 1)))) := fun w1 h1 hc1 => by
    have hset : Chg (fun i => i = bk) w1 (w1.setCell ⟨bk, 0, none⟩ (.int .i64 ((k : Int) + 1))) := (Chg.refl (fun i => i = bk) _).setCell (.inl rfl) _
    exact ⟨h1.more hset (h1.k.set 0 _), (hc1.weak (fun _ h => h.elim)).trans hset (fun i hi => .inl hi)⟩
  clear h hg hal hbx hlv hr
  have hkb : (k : Int) ≤ 1000000 := by omega
  cases rk with
  | false =>
    go_enter Tryz.func67, Tryz.ntmps67
    go_upto_region 1 with fail
    generalize w.alloc (.cells #[.int .i64 ro, .int .i64 rt, .bool false, .string rkey, .bool rg, .string rval] 37) = w1 at *
    generalize w.heap.size = gr at *
    go_wp2_with fail
    go_ret
    exact ⟨rfl, HG.out, HAL.out.weak (fun _ h => h.elim)⟩
  | true =>
    by_cases hlt : ro < lv
    · have HD := Lib.hid (decide_eq_true hlt)
      rw [show (true && (decide (ro < lv) || (rg && decide (rt < lim)))) = true by rw [HD.out]; rfl]
      go_enter Tryz.func67, Tryz.ntmps67
      go_upto_region 1 with fail
      generalize w.alloc (.cells #[.int .i64 ro, .int .i64 rt, .bool true, .string rkey, .bool rg, .string rval] 37) = w1 at *
      generalize w.heap.size = gr at *
      go_wp2_with fail
      go_ret
      obtain ⟨h1, h2⟩ := HST.out _ HG.out HAL.out
      exact ⟨rfl, h1, h2⟩
    · have HD := Lib.hid (decide_eq_false hlt)
      cases rg with
      | false =>
        rw [show (true && (decide (ro < lv) || (false && decide (rt < lim)))) = false by rw [HD.out]; rfl]
        go_enter Tryz.func67, Tryz.ntmps67
        go_upto_region 1 with fail
        generalize w.alloc (.cells #[.int .i64 ro, .int .i64 rt, .bool true, .string rkey, .bool false, .string rval] 37) = w1 at *
        generalize w.heap.size = gr at *
        go_wp2_with fail
        go_ret
        exact ⟨rfl, HG.out, HAL.out.weak (fun _ h => h.elim)⟩
      | true =>
        by_cases htl : rt < lim
        · have HD2 := Lib.hid (decide_eq_true htl)
          rw [show (true && (decide (ro < lv) || (true && decide (rt < lim)))) = true by rw [HD.out, HD2.out]; rfl]
          go_enter Tryz.func67, Tryz.ntmps67
          go_upto_region 1 with fail
          generalize w.alloc (.cells #[.int .i64 ro, .int .i64 rt, .bool true, .string rkey, .bool true, .string rval] 37) = w1 at *
          generalize w.heap.size = gr at *
          go_wp2_with fail
          go_ret
          obtain ⟨h1, h2⟩ := HST.out _ HG.out HAL.out
          exact ⟨rfl, h1, h2⟩
        · have HD2 := Lib.hid (decide_eq_false htl)
          rw [show (true && (decide (ro < lv) || (true && decide (rt < lim)))) = false by rw [HD.out, HD2.out]; rfl]
          go_enter Tryz.func67, Tryz.ntmps67
          go_upto_region 1 with fail
          generalize w.alloc (.cells #[.int .i64 ro, .int .i64 rt, .bool true, .string rkey, .bool true, .string rval] 37) = w1 at *
          generalize w.heap.size = gr at *
          go_wp2_with fail
          go_ret
          exact ⟨rfl, HG.out, HAL.out.weak (fun _ h => h.elim)⟩
end Go.Proofs.YtdjmifaidgbbaaaGreatDoor
