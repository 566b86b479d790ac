/-
  The plain disk: files by names in an order, room, operations left. Of no program.
-/
import Derived.Test.YtmaomebnigcgeaaGreatDoorBase
import Derived.Test.YtmaomebnigcgeaaGreatDoorNamesL
namespace Go.Proofs.YtmaomebnigcgeaaGreatDoor

abbrev Nm := List UInt8
/-- A file: bytes, of which the first ones are safe. -/
structure Fl where
  bytes : List UInt8
  safe : Nat
structure Dk where
  fs : List (Nm × Fl)
  room : Nat
  left : Int

def Dk.names (d : Dk) : List Nm := d.fs.map (·.1)
def Dk.find (d : Dk) (x : Nm) : Option Fl := d.fs.lookup x
def Dk.used (d : Dk) : Nat := (d.fs.map fun p => p.2.bytes.length).sum
def Dk.size (d : Dk) (x : Nm) : Int := match d.find x with | some f => f.bytes.length | none => -1
/-- A file's bytes from one on, at most so many. -/
def readOf (l : List UInt8) (frm most : Int) : List UInt8 := if frm < 0 ∨ most ≤ 0 then [] else (l.drop frm.toNat).take most.toNat
def Dk.read (d : Dk) (x : Nm) (frm most : Int) : List UInt8 := match d.find x with | some f => readOf f.bytes frm most | none => []
/-- Whether an operation is done. -/
def didB (l : Int) : Bool := decide (l ≠ 0)
def stepL (l : Int) : Int := if 0 < l then l - 1 else l
def Dk.does (d : Dk) : Bool := didB d.left
def Dk.step (d : Dk) : Dk := { d with left := stepL d.left }
def Dk.turn (d : Dk) (x : Nm) (f : Fl) : Dk := { d with fs := d.fs.map fun p => if p.1 = x then (p.1, f) else p }
def Dk.del (d : Dk) (x : Nm) : Dk := { d with fs := d.fs.filter fun p => decide (p.1 ≠ x) }
def Dk.put (d : Dk) (x : Nm) (f : Fl) : Dk := { d with fs := (d.fs.filter fun p => decide (p.1 ≠ x)) ++ [(x, f)] }
def Dk.fresh (room : Nat) : Dk := { fs := [], room := room, left := -1 }

/-- What is wrong (0: nothing), and the disk behind it. -/
def dkName (x : Nm) : Bool := nameOk 40 cutDisk x
def Dk.make (d : Dk) (x : Nm) : Nat × Dk :=
  if d.does = false then (14, d) else
    if dkName x = false then (5, d.step) else
      if (d.find x).isSome = true then (9, d.step) else
        if d.fs.length = 200 then (4, d.step) else (0, d.step.put x ⟨[], 0⟩)
/-- An operation at a file. -/
def Dk.at (d : Dk) (x : Nm) (g : Fl → Nat × (Dk → Dk)) : Nat × Dk :=
  if d.does = false then (14, d) else
    match d.find x with
    | none => (7, d.step)
    | some f => ((g f).1, (g f).2 d.step)
def Dk.add (d : Dk) (x : Nm) (b : List UInt8) : Nat × Dk :=
  d.at x fun f => if d.room < d.used + b.length then (12, id) else (0, fun d => d.turn x ⟨f.bytes ++ b, f.safe⟩)
def Dk.cut (d : Dk) (x : Nm) (n : Int) : Nat × Dk :=
  d.at x fun f => if n < 0 ∨ (f.bytes.length : Int) < n then (2, id) else (0, fun d => d.turn x ⟨f.bytes.take n.toNat, min f.safe n.toNat⟩)
def Dk.sync (d : Dk) (x : Nm) : Nat × Dk :=
  d.at x fun f => (0, fun d => d.turn x ⟨f.bytes, f.bytes.length⟩)
def Dk.rename (d : Dk) (x y : Nm) : Nat × Dk :=
  d.at x fun f => if dkName y = false then (5, id) else (0, fun d => (d.del x).put y f)
def Dk.remove (d : Dk) (x : Nm) : Nat × Dk :=
  d.at x fun _ => (0, fun d => d.del x)

/-- Names in order. -/
def sortN (l : List Nm) : List Nm := l.mergeSort fun x y => decide (x ≤ y)
def Dk.list (d : Dk) (begin : Nm) : List Nm := sortN (d.names.filter fun x => begin.isPrefixOf x)
/-- What a crash leaves of a file. -/
def keepOf (f : Fl) (fates : List UInt8) (i : Nat) : Nat :=
  if fates = [] then f.safe else min f.bytes.length (f.safe + (fates.getD (i % fates.length) 0).toNat)
def crashed (f : Fl) (fates : List UInt8) (i : Nat) : Fl := ⟨f.bytes.take (keepOf f fates i), keepOf f fates i⟩
def Dk.crash1 (fates : List UInt8) (d : Dk) (i : Nat) (x : Nm) : Dk := match d.find x with | some f => d.turn x (crashed f fates i) | none => d
def Dk.crashGo (fates : List UInt8) : Nat → List Nm → Dk → Dk
  | _, [], d => d
  | i, x :: r, d => Dk.crashGo fates (i + 1) r (d.crash1 fates i x)
def Dk.crash (d : Dk) (fates : List UInt8) : Dk := { Dk.crashGo fates 0 (d.list []) d with left := -1 }

/-- The disk is in order: no name twice; what is safe is there; all within its bounds. -/
structure Dk.Ok (d : Dk) : Prop where
  nodup : d.names.Nodup
  safe : ∀ p ∈ d.fs, p.2.safe ≤ p.2.bytes.length
  fits : d.used ≤ d.room
  room : d.room ≤ 1048576
  few : d.fs.length ≤ 200
  left : -1 ≤ d.left ∧ d.left ≤ 9223372036854775807
  short : ∀ x ∈ d.names, x.length ≤ 40

theorem dkName_len {x : Nm} (h : dkName x = true) : x.length ≤ 40 := by
  unfold dkName nameOk at h
  simp only [Bool.and_eq_true, decide_eq_true_eq] at h
  exact h.1.2

theorem stepL_ok {l : Int} (h : -1 ≤ l ∧ l ≤ 9223372036854775807) : -1 ≤ stepL l ∧ stepL l ≤ 9223372036854775807 := by
  unfold stepL
  split <;> omega
theorem Dk.Ok.step {d : Dk} (h : d.Ok) : d.step.Ok := ⟨h.nodup, h.safe, h.fits, h.room, h.few, stepL_ok h.left, h.short⟩

theorem find_none {d : Dk} {x : Nm} (h : d.find x = none) : x ∉ d.names := by
  unfold Dk.find at h
  intro hx
  obtain ⟨q, hq, rfl⟩ := List.mem_map.1 hx
  rw [List.lookup_eq_none_iff] at h
  have := h q hq
  simp at this
theorem sum_sub : ∀ {a b : List Nat}, a.Sublist b → a.sum ≤ b.sum
  | _, _, .slnil => Nat.le_refl _
  | _, _, .cons x h => by have := sum_sub h; simp; omega
  | _, _, .cons_cons x h => by have := sum_sub h; simp; omega
theorem used_filter (d : Dk) (x : Nm) : (d.del x).used ≤ d.used := by
  unfold Dk.used Dk.del
  exact sum_sub (List.Sublist.map _ List.filter_sublist)
theorem names_filter {d : Dk} {x : Nm} (h : x ∉ d.names) : (d.fs.filter fun p => decide (p.1 ≠ x)) = d.fs := by
  rw [List.filter_eq_self]
  intro q hq
  simp
  intro e
  exact h (List.mem_map.2 ⟨q, hq, e⟩)
theorem Dk.Ok.make {d : Dk} (h : d.Ok) (x : Nm) : (d.make x).2.Ok := by
  unfold Dk.make
  split
  · exact h
  · split
    · exact h.step
    · rename_i hn
      split
      · exact h.step
      · rename_i hf
        split
        · exact h.step
        · rename_i hl
          have hf0 : d.find x = none := by
            cases hq : d.find x with
            | none => rfl
            | some _ => rw [hq] at hf; exact absurd rfl hf
          have hnot := find_none hf0
          have e : d.step.put x ⟨[], 0⟩ = { d.step with fs := d.fs ++ [(x, ⟨[], 0⟩)] } := by
            unfold Dk.put
            rw [show d.step.fs = d.fs from rfl, names_filter hnot]
          rw [e]
          refine ⟨?_, ?_, ?_, h.room, ?_, stepL_ok h.left, ?_⟩
          · show ((d.fs ++ [(x, (⟨[], 0⟩ : Fl))]).map (·.1)).Nodup
            rw [List.map_append]
            refine List.nodup_append.2 ⟨h.nodup, by simp, fun y hy z hz e => ?_⟩
            simp at hz
            exact hnot (by rw [← hz, ← e]; exact hy)
          · intro p hp
            rcases List.mem_append.1 hp with hp | hp
            · exact h.safe p hp
            · simp at hp; subst hp; exact Nat.le_refl _
          · show ((d.fs ++ [(x, (⟨[], 0⟩ : Fl))]).map _).sum ≤ d.room
            rw [List.map_append, List.sum_append]
            have := h.fits
            unfold Dk.used at this
            simpa using this
          · show (d.fs ++ [(x, (⟨[], 0⟩ : Fl))]).length ≤ 200
            rw [List.length_append]
            have := h.few
            simp
            omega
          · intro y hy
            have hy : y ∈ (d.fs ++ [(x, (⟨[], 0⟩ : Fl))]).map (·.1) := hy
            rw [List.map_append] at hy
            rcases List.mem_append.1 hy with hy | hy
            · exact h.short y hy
            · simp at hy; subst hy
              cases hd : dkName y with
              | true => exact dkName_len hd
              | false => exact absurd hd hn
end Go.Proofs.YtmaomebnigcgeaaGreatDoor
